/- VdX VeA, laid as one. -/
import Derived.Test.YtlhcejbimlilaaaGreatDoorVcD
set_option linter.unusedVariables false
set_option linter.unusedSimpArgs false
/- How the document reads a sign of a hexBinary: the last place at which it stands in one of two tables. Plain. -/
namespace Go.Tk
open Go Go.RowKit
def hxU : List UInt8 := [48, 49, 50, 51, 52, 53, 54, 55, 56, 57, 65, 66, 67, 68, 69, 70]
def hxL : List UInt8 := [48, 49, 50, 51, 52, 53, 54, 55, 56, 57, 97, 98, 99, 100, 101, 102]
/-- Of the first k places, the last that fits. -/
def hxD (c : UInt8) : Nat → Int
  | 0 => -1
  | k + 1 => if c = hxU.getD k 0 ∨ c = hxL.getD k 0 then (k : Int) else hxD c k
theorem hxD_fin : ∀ n : Fin 256, hxD (UInt8.ofNat n.val) 16 = hxV (gtC (UInt8.ofNat n.val)) := by decide +kernel
theorem hxD_all (c : UInt8) : hxD c 16 = hxV (gtC c) := by
  have h := hxD_fin ⟨c.toNat, UInt8.toNat_lt c⟩
  have e : UInt8.ofNat c.toNat = c := UInt8.ofNat_toNat
  simp only [e] at h
  exact h
theorem hxD_rng (c : UInt8) : ∀ k : Nat, -1 ≤ hxD c k ∧ hxD c k < k ∨ hxD c k = -1
  | 0 => .inr rfl
  | k + 1 => by
    have ih := hxD_rng c k
    simp only [hxD]
    split
    · left; omega
    · rcases ih with ih | ih
      · left; omega
      · right; exact ih
/-- A text has bytes just if its signs are signs, and are even in number. -/
theorem hexP_some : ∀ l : List UInt8, (hexP l).isSome = (l.all (fun c => decide (0 ≤ hxV c)) && decide (l.length % 2 = 0))
  | [] => rfl
  | [c] => by simp [hexP]
  | a :: b :: t => by
    have ih := hexP_some t
    simp only [hexP]
    by_cases h : hxV a < 0 ∨ hxV b < 0
    · rw [if_pos h]
      have : (decide (0 ≤ hxV a) && decide (0 ≤ hxV b)) = false := by
        rcases h with h | h
        · rw [decide_eq_false (by omega)]; rfl
        · rw [decide_eq_false (show ¬ 0 ≤ hxV b by omega), Bool.and_false]
      rw [List.all_cons, List.all_cons, ← Bool.and_assoc, this]
      rfl
    · rw [if_neg h, Option.isSome_map, ih, List.all_cons, List.all_cons, decide_eq_true (show 0 ≤ hxV a by omega), decide_eq_true (show 0 ≤ hxV b by omega), Bool.true_and, Bool.true_and]
      congr 1
      rw [decide_eq_decide]
      simp only [List.length_cons]
      omega
/-- The numbers that signs tell, two signs a number, the last one alone a half. -/
def hxZ : List UInt8 → List Int
  | [] => []
  | [a] => [16 * hxV (gtC a)]
  | a :: b :: t => (16 * hxV (gtC a) + hxV (gtC b)) :: hxZ t
theorem hxZ_even (c : UInt8) : ∀ l : List UInt8, l.length % 2 = 0 → hxZ (l ++ [c]) = hxZ l ++ [16 * hxV (gtC c)]
  | [], _ => rfl
  | [a], h => by simp at h
  | a :: b :: t, h => by
    have ih := hxZ_even c t (by simp at h; omega)
    show (16 * hxV (gtC a) + hxV (gtC b)) :: hxZ (t ++ [c]) = _
    rw [ih]; rfl
theorem hxZ_odd (c : UInt8) : ∀ l : List UInt8, l.length % 2 = 1 → hxZ (l ++ [c]) = (hxZ l).set (l.length / 2) ((hxZ l).getD (l.length / 2) 0 + hxV (gtC c))
  | [], h => by simp at h
  | [a], _ => by simp [hxZ]
  | a :: b :: t, h => by
    have ih := hxZ_odd c t (by simp at h; omega)
    show (16 * hxV (gtC a) + hxV (gtC b)) :: hxZ (t ++ [c]) = ((16 * hxV (gtC a) + hxV (gtC b)) :: hxZ t).set ((t.length + 1 + 1) / 2) (((16 * hxV (gtC a) + hxV (gtC b)) :: hxZ t).getD ((t.length + 1 + 1) / 2) 0 + hxV (gtC c))
    rw [ih, show (t.length + 1 + 1) / 2 = t.length / 2 + 1 by omega]
    rfl
theorem hxZ_nums : ∀ (l bs : List UInt8), hexP (gtP l) = some bs → nums bs = hxZ l
  | [], bs, h => by
    have : bs = [] := (Option.some.inj h).symm
    rw [this]; rfl
  | [a], bs, h => by cases h
  | a :: b :: t, bs, h => by
    have e : hexP (gtP (a :: b :: t)) = if hxV (gtC a) < 0 ∨ hxV (gtC b) < 0 then none else (hexP (gtP t)).map (UInt8.ofNat (hxV (gtC a) * 16 + hxV (gtC b)).toNat :: ·) := rfl
    rw [e] at h
    split at h
    · cases h
    · rename_i hn
      obtain ⟨u, hu, rfl⟩ := Option.map_eq_some_iff.1 h
      have ih := hxZ_nums t u hu
      have b1 := hxV_bd (gtC a)
      have b2 := hxV_bd (gtC b)
      show _ = (16 * hxV (gtC a) + hxV (gtC b)) :: hxZ t
      rw [← ih]
      obtain ⟨x, hx⟩ : ∃ x, x = hxV (gtC a) := ⟨_, rfl⟩
      obtain ⟨y, hy⟩ : ∃ y, y = hxV (gtC b) := ⟨_, rfl⟩
      rw [← hx] at b1 hn ⊢
      rw [← hy] at b2 hn ⊢
      unfold nums
      rw [List.map_cons]
      congr 1
      rw [UInt8.toNat_ofNat']
      omega
end Go.Tk
/- How the document reads a base64Binary: at most two = cut, signs looked up by the last place that fits. Plain. -/
namespace Go.Tk
open Go Go.RowKit
/-- Of the first k places of the table, the last that fits. -/
def b6D (c : UInt8) : Nat → Int
  | 0 => -1
  | k + 1 => if b6T.getD k 0 = c then (k : Int) else b6D c k
theorem b6D_fin : ∀ n : Fin 256, b6D (UInt8.ofNat n.val) 64 = b6V (UInt8.ofNat n.val) := by decide +kernel
theorem b6D_all (c : UInt8) : b6D c 64 = b6V c := by
  have h := b6D_fin ⟨c.toNat, UInt8.toNat_lt c⟩
  have e : UInt8.ofNat c.toNat = c := UInt8.ofNat_toNat
  simp only [e] at h
  exact h
theorem b6F_none : ∀ (l : List UInt8) (B H : Nat), (∃ c ∈ l, b6V c < 0) → b6F B H l = none
  | [], _, _, ⟨c, hc, _⟩ => by simp at hc
  | c :: t, B, H, h => by
    by_cases h0 : b6V c < 0
    · exact b6F_bad h0
    · have ht : ∃ d ∈ t, b6V d < 0 := by
        obtain ⟨d, hd, hv⟩ := h
        rcases List.mem_cons.1 hd with rfl | hd
        · exact absurd hv h0
        · exact ⟨d, hd, hv⟩
      simp only [b6F]
      rw [if_neg h0]
      split
      · rw [b6F_none t _ _ ht]; rfl
      · exact b6F_none t _ _ ht
/-- How many = stand at the end, two at most. -/
def eqN (L : List UInt8) : Nat := min 2 (L.length - (tre L).length)
theorem take_rep (t : List UInt8) (k : Nat) (h : 2 < k) : (t ++ List.replicate k 61).take (t.length + k - 2) = t ++ List.replicate (k - 2) 61 := by
  obtain ⟨m, rfl⟩ : ∃ m, k = m + 2 := ⟨k - 2, by omega⟩
  rw [show t.length + (m + 2) - 2 = t.length + m by omega, show m + 2 - 2 = m by omega, List.take_length_add_append, List.take_replicate, Nat.min_eq_left (by omega)]
/-- What base64 says, with at most two = cut. -/
theorem b6_cut (L : List UInt8) : (b6R L).2 = if L.length % 4 ≠ 0 then false else (b6E (b6F 0 0 (L.take (L.length - eqN L)))).2 := by
  obtain ⟨k, hk⟩ := tre_app L
  have hl : L.length = (tre L).length + k := by
    have := congrArg List.length hk
    rw [List.length_append, List.length_replicate] at this
    exact this
  unfold b6R
  by_cases h4 : L.length % 4 ≠ 0
  · rw [if_pos h4, if_pos h4]
  · rw [if_neg h4, if_neg h4]
    by_cases h2 : 2 < L.length - (tre L).length
    · rw [if_pos h2]
      have e : eqN L = 2 := by unfold eqN; omega
      have hb : b6F 0 0 (L.take (L.length - 2)) = none := by
        apply b6F_none
        refine ⟨61, ?_, by decide +kernel⟩
        have ht : L.take (L.length - 2) = tre L ++ List.replicate (k - 2) 61 := by
          have := take_rep (tre L) k (by omega)
          rw [← hk, ← hl] at this
          exact this
        rw [ht]
        exact List.mem_append_right _ (List.mem_replicate.2 ⟨by omega, rfl⟩)
      rw [e, hb]
      rfl
    · rw [if_neg h2]
      have e : eqN L = k := by unfold eqN; omega
      have ht : L.take (L.length - k) = tre L := by
        have : (tre L ++ List.replicate k (61 : UInt8)).take (tre L).length = tre L := List.take_left
        rw [← hk] at this
        rw [← this]
        congr 1
        omega
      rw [e, ht]
/-- And which bytes, where the text is taken. -/
theorem b6_cut2 (L : List UInt8) (h : (b6R L).2 = true) : (b6R L).1 = (b6E (b6F 0 0 (L.take (L.length - eqN L)))).1 := by
  obtain ⟨k, hk⟩ := tre_app L
  have hl : L.length = (tre L).length + k := by
    have := congrArg List.length hk
    rw [List.length_append, List.length_replicate] at this
    exact this
  unfold b6R at h ⊢
  by_cases h4 : L.length % 4 ≠ 0
  · rw [if_pos h4] at h; cases h
  · rw [if_neg h4] at h ⊢
    by_cases h2 : 2 < L.length - (tre L).length
    · rw [if_pos h2] at h; cases h
    · rw [if_neg h2]
      have e : eqN L = k := by unfold eqN; omega
      have ht : L.take (L.length - k) = tre L := by
        have : (tre L ++ List.replicate k (61 : UInt8)).take (tre L).length = tre L := List.take_left
        rw [← hk] at this
        rw [← this]
        congr 1
        omega
      rw [e, ht]
end Go.Tk
