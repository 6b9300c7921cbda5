/- The document's until and begins. -/
import Derived.Test.YtlhcejbimlilaaaGreatDoorTypes
import Derived.Test.YtlhcejbimlilaaaGreatDoorUtfD
import Derived.Test.YtlhcejbimlilaaaGreatDoorReg
import Derived.Test.YtlhcejbimlilaaaGreatDoorIriC
import Derived.BigQuiet
import Derived.WalkSpells
set_option linter.unusedVariables false
set_option linter.unusedSimpArgs false
namespace Go.Tk
/-- How many bytes there are ahead of the first that is asked for. -/
def unt (q : UInt8 → Bool) : List UInt8 → Nat
  | [] => 0
  | b :: l => if q b then 0 else unt q l + 1
theorem unt_le (q : UInt8 → Bool) : ∀ l : List UInt8, unt q l ≤ l.length
  | [] => Nat.le_refl _
  | b :: l => by
    have := unt_le q l
    simp only [unt]
    split <;> simp <;> omega
theorem unt_at (q : UInt8 → Bool) : ∀ (l : List UInt8) (i : Nat) (hi : i < l.length), q l[i] = true → (∀ b ∈ l.take i, q b = false) → unt q l = i
  | [], i, hi, _, _ => by simp at hi
  | b :: l, 0, _, h, _ => by
    have : q b = true := by simpa using h
    simp [unt, this]
  | b :: l, i + 1, hi, h, hn => by
    have hb : q b = false := hn b (by simp)
    simp only [unt]
    rw [if_neg (by simp [hb]), unt_at q l i (by simpa using hi) (by simpa using h) (fun x hx => hn x (by simp [hx]))]
theorem unt_none (q : UInt8 → Bool) : ∀ l : List UInt8, (∀ b ∈ l, q b = false) → unt q l = l.length
  | [], _ => rfl
  | b :: l, h => by
    simp only [unt]
    rw [if_neg (by simp [h b (by simp)]), unt_none q l (fun x hx => h x (by simp [hx]))]
    rfl
theorem toS_unt : ∀ l : List UInt8, toS l = unt (fun b => b == 47) l
  | [] => rfl
  | b :: l => by
    simp only [toS, unt]
    rw [toS_unt l]
theorem mem_take_snoc {q : UInt8 → Bool} {l : List UInt8} {k : Nat} (hk : k < l.length) (h : ∀ b ∈ l.take k, q b = false) (h1 : q l[k] = false) : ∀ b ∈ l.take (k + 1), q b = false := by
  intro b hb
  rw [List.take_succ_eq_append_getElem hk] at hb
  rcases List.mem_append.1 hb with h2 | h2
  · exact h b h2
  · simp at h2; subst h2; exact h1
/-- Is it one of the signs? -/
def among (signs : List UInt8) (b : UInt8) : Bool := signs.contains b
theorem among_at {signs : List UInt8} {b : UInt8} {j : Nat} (hj : j < signs.length) (h : b = signs[j]) : among signs b = true := by
  unfold among; simp [h]
theorem among_no {signs : List UInt8} {b : UInt8} (h : ∀ x ∈ signs, x ≠ b) : among signs b = false := by
  unfold among
  rw [List.contains_eq_mem]
  simp only [decide_eq_false_iff_not]
  exact fun hm => h b hm rfl
theorem among_one (x : UInt8) : among [x] = fun b => b == x := by
  funext b
  unfold among
  rw [List.contains_eq_mem]
  by_cases h : b = x
  · simp [h]
  · simp [h]
theorem toS_among (l : List UInt8) : toS l = unt (among [47]) l := by rw [toS_unt, among_one]
end Go.Tk
namespace Go.Proofs.YtlhcejbimlilaaaGreatDoor
open Go.RowKit Go.Tk
end Go.Proofs.YtlhcejbimlilaaaGreatDoor
