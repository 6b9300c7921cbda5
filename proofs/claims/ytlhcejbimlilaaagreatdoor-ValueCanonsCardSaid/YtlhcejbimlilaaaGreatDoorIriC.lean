/- What Clean does with a path: plain. -/
import Derived.WalkKit
import Derived.Lib.Strings
import Derived.Lib.Bytealg
set_option linter.unusedVariables false
set_option linter.unusedSimpArgs false
namespace Go.Tk
open Go
/-- The bytes ahead of the last slash, if there is one. -/
def upB (out : List UInt8) : List UInt8 := (out.reverse.dropWhile (· != 47)).tail.reverse
/-- How many bytes there are up to a text's first slash, without it. -/
def toS : List UInt8 → Nat
  | [] => 0
  | b :: l => if b == 47 then 0 else toS l + 1
theorem toS_le : ∀ l : List UInt8, toS l ≤ l.length
  | [] => Nat.le_refl _
  | b :: l => by
    have := toS_le l
    simp only [toS]
    split <;> simp <;> omega
/-- One round: what is left of the path, and the answer so far. -/
def clS (p out : List UInt8) : List UInt8 × List UInt8 :=
  if Lib.hasPrefix p [46, 46, 47] then (p.drop 3, out)
  else if Lib.hasPrefix p [46, 47] then (p.drop 2, out)
  else if Lib.hasPrefix p [47, 46, 47] then (p.drop 2, out)
  else if p = [47, 46] then ([47], out)
  else if Lib.hasPrefix p [47, 46, 46, 47] then (p.drop 3, upB out)
  else if p = [47, 46, 46] then ([47], upB out)
  else if p = [46] ∨ p = [46, 46] then ([], out)
  else (p.drop (toS (p.drop 1) + 1), out ++ p.take (toS (p.drop 1) + 1))
theorem clS_lt (p out : List UInt8) (h : p ≠ []) : (clS p out).1.length < p.length := by
  have hp := List.length_pos_iff.2 h
  unfold clS
  split
  · simp; omega
  split
  · simp; omega
  split
  · simp; omega
  split
  · rename_i h; subst h; simp
  split
  · simp; omega
  split
  · rename_i h; subst h; simp
  split
  · simpa using hp
  · simp; omega
def clN : Nat → List UInt8 → List UInt8 → List UInt8
  | 0, _, out => out
  | n + 1, p, out => if p = [] then out else clN n (clS p out).1 (clS p out).2
theorem clN_fuel : ∀ (n m : Nat) (p out : List UInt8), p.length ≤ n → p.length ≤ m → clN n p out = clN m p out
  | 0, m, p, out, h, _ => by
    obtain rfl : p = [] := List.eq_nil_of_length_eq_zero (by omega)
    cases m <;> simp [clN]
  | n + 1, 0, p, out, _, h => by
    obtain rfl : p = [] := List.eq_nil_of_length_eq_zero (by omega)
    simp [clN]
  | n + 1, m + 1, p, out, h1, h2 => by
    simp only [clN]
    split
    · rfl
    · rename_i h
      have := clS_lt p out h
      exact clN_fuel n m _ _ (by omega) (by omega)
/-- A path without dot segments, behind what is there already. -/
def cl (p out : List UInt8) : List UInt8 := clN p.length p out
theorem cl_nil (out : List UInt8) : cl [] out = out := rfl
theorem cl_step (p out : List UInt8) (h : p ≠ []) : cl p out = cl (clS p out).1 (clS p out).2 := by
  have hp := List.length_pos_iff.2 h
  have hl := clS_lt p out h
  obtain ⟨n, hn⟩ : ∃ n, p.length = n + 1 := ⟨p.length - 1, by omega⟩
  unfold cl
  rw [hn]
  simp only [clN]
  rw [if_neg h]
  exact clN_fuel _ _ _ _ (by omega) (Nat.le_refl _)
/-- The answer's length. -/
theorem upB_le (out : List UInt8) : (upB out).length ≤ out.length := by
  unfold upB
  have := (List.dropWhile_sublist (fun x : UInt8 => x != 47) (l := out.reverse)).length_le
  simp at this ⊢
  omega
theorem clS_len (p out : List UInt8) : (clS p out).1.length + (clS p out).2.length ≤ p.length + out.length := by
  have hu := upB_le out
  unfold clS
  split
  · simp
  split
  · simp
  split
  · simp
  split
  · rename_i h; subst h; simp
  split
  · simp; omega
  split
  · rename_i h; subst h; simp; omega
  split
  · simp
  · have := toS_le (p.drop 1)
    simp at this ⊢
    omega
theorem dropWhile_all {α : Type} (q : α → Bool) : ∀ l : List α, (∀ x ∈ l, q x = true) → l.dropWhile q = []
  | [], _ => rfl
  | x :: l, h => by
    rw [List.dropWhile_cons, if_pos (h x (by simp))]
    exact dropWhile_all q l (fun y hy => h y (by simp [hy]))
theorem dropWhile_upto {α : Type} (q : α → Bool) (x : α) (r : List α) (hx : q x = false) : ∀ l : List α, (∀ y ∈ l, q y = true) → (l ++ x :: r).dropWhile q = x :: r
  | [], _ => by simp [hx]
  | y :: l, h => by
    rw [List.cons_append, List.dropWhile_cons, if_pos (h y (by simp))]
    exact dropWhile_upto q x r hx l (fun z hz => h z (by simp [hz]))
theorem upB_none (out : List UInt8) (h : ∀ b ∈ out, b ≠ 47) : upB out = [] := by
  unfold upB
  rw [dropWhile_all _ _ (fun x hx => by simpa using h x (by simpa using hx))]
  rfl
theorem upB_at (out : List UInt8) (i : Nat) (hi : i < out.length) (h1 : out[i] = 47) (h2 : ∀ b ∈ out.drop (i + 1), b ≠ 47) : upB out = out.take i := by
  have e : out = out.take i ++ 47 :: out.drop (i + 1) := by
    conv => lhs; rw [← List.take_append_drop i out, List.drop_eq_getElem_cons hi, h1]
  unfold upB
  have er : out.reverse = (out.drop (i + 1)).reverse ++ 47 :: (out.take i).reverse := by
    conv => lhs; rw [e]
    simp
  rw [er, dropWhile_upto _ _ _ (by simp) _ (fun y hy => by simpa using h2 y (by simpa using hy))]
  simp
theorem toS_at : ∀ (l : List UInt8) (i : Nat) (hi : i < l.length), l[i] = 47 → (∀ b ∈ l.take i, b ≠ 47) → toS l = i
  | [], i, hi, _, _ => by simp at hi
  | b :: l, 0, _, h, _ => by
    have : b = 47 := by simpa using h
    simp [toS, this]
  | b :: l, i + 1, hi, h, hn => by
    have hb : ¬ b = 47 := hn b (by simp)
    simp only [toS]
    rw [if_neg (by simpa using hb), toS_at l i (by simpa using hi) (by simpa using h) (fun x hx => hn x (by simp [hx]))]
theorem toS_none : ∀ l : List UInt8, (∀ b ∈ l, b ≠ 47) → toS l = l.length
  | [], _ => rfl
  | b :: l, h => by
    simp only [toS]
    rw [if_neg (by simpa using h b (by simp)), toS_none l (fun x hx => h x (by simp [hx]))]
    rfl
/-- What IndexByte says of a slash. -/
theorem indexByte_toS : ∀ l : List UInt8, Lib.indexByte l 47 = if toS l < l.length then (toS l : Int) else -1
  | [] => by simp [Lib.indexByte, toS]
  | b :: l => by
    have ih := indexByte_toS l
    by_cases hb : b = 47
    · have e1 : toS (b :: l) = 0 := by simp [toS, hb]
      have e2 : Lib.indexByte (b :: l) 47 = 0 := by simp [Lib.indexByte, hb]
      rw [e1, e2, if_pos (by simp)]
      rfl
    · have e1 : toS (b :: l) = toS l + 1 := by simp [toS, hb]
      have e2 : Lib.indexByte (b :: l) 47 = if Lib.indexByte l 47 = -1 then -1 else Lib.indexByte l 47 + 1 := by simp [Lib.indexByte, hb]
      rw [e1, e2, ih, List.length_cons]
      by_cases h : toS l < l.length
      · rw [if_pos h, if_neg (by omega), if_pos (by omega)]
        simp
      · rw [if_neg h, if_pos rfl, if_neg (by omega)]
end Go.Tk
