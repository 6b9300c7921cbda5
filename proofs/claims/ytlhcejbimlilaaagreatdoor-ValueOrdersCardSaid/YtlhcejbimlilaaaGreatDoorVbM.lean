/- VaN VcC VbM, laid as one. -/
import Derived.Test.YtlhcejbimlilaaaGreatDoorVaM
import Derived.Test.YtlhcejbimlilaaaGreatDoorVcB
set_option linter.unusedVariables false
set_option linter.unusedSimpArgs false
/- Days and dates: each day has one date. Plain. -/
namespace Go.Tk
open Go Go.RowKit
def lpN (y : Int) : Int := if lpB y = true then 1 else 0
theorem lpN_bd (y : Int) : 0 ≤ lpN y ∧ lpN y ≤ 1 := by unfold lpN; split <;> omega
theorem lpN_eq (y : Int) : lpN y = y / 4 - (y - 1) / 4 - (y / 100 - (y - 1) / 100) + (y / 400 - (y - 1) / 400) := by
  unfold lpN lpB
  by_cases h4 : y % 4 = 0
  · by_cases h1 : y % 100 = 0
    · by_cases h0 : y % 400 = 0
      · rw [decide_eq_true h4, decide_eq_true h1, decide_eq_true h0]; simp; omega
      · rw [decide_eq_true h4, decide_eq_true h1, decide_eq_false h0]; simp; omega
    · rw [decide_eq_true h4, decide_eq_false h1]; simp; omega
  · rw [decide_eq_false h4]; simp; omega
theorem ydP_succ (y : Int) : ydP (y + 1) = ydP y + 365 + lpN y := by
  rw [lpN_eq]; unfold ydP; rw [show y + 1 - 1 = y by omega]; omega
theorem ydP_le {a b : Int} (h : a ≤ b) : ydP a + 365 * (b - a) ≤ ydP b := by
  obtain ⟨k, rfl⟩ : ∃ k : Nat, b = a + k := ⟨(b - a).toNat, by omega⟩
  clear h
  induction k with
  | zero => simp
  | succ k ih =>
    have h1 := ydP_succ (a + k)
    have h2 := lpN_bd (a + k)
    rw [show a + ((k + 1 : Nat) : Int) = a + k + 1 by omega]
    omega
theorem ydP_bd (y : Int) (h : -1000000010 ≤ y) (h2 : y ≤ 1000000010) : -366000010000 ≤ ydP y ∧ ydP y ≤ 366000010000 := by unfold ydP; omega
theorem mdP_bd (y m : Int) : 28 ≤ mdP y m ∧ mdP y m ≤ 31 := by unfold mdP; split <;> split <;> omega
theorem cmP_bd (y : Int) : ∀ k : Nat, 28 * (k : Int) ≤ cmP y k ∧ cmP y k ≤ 31 * k
  | 0 => by simp [cmP]
  | k + 1 => by
    have h1 := cmP_bd y k
    have h2 := mdP_bd y (k + 1)
    simp only [cmP]
    omega
theorem cmP_succ (y : Int) (m : Int) (h : 1 ≤ m) : cmP y m.toNat = cmP y (m - 1).toNat + mdP y m := by
  obtain ⟨k, rfl⟩ : ∃ k : Nat, m = k + 1 := ⟨(m - 1).toNat, by omega⟩
  rw [show ((k : Int) + 1).toNat = k + 1 by omega, show ((k : Int) + 1 - 1).toNat = k by omega]
  rfl
theorem cmP_12 (y : Int) : cmP y 12 = 365 + lpN y := by
  unfold lpN
  simp [cmP, mdP]
  split <;> rfl
theorem cmP_mono (y : Int) {a b : Nat} (h : a ≤ b) : cmP y a ≤ cmP y b := by
  induction b with
  | zero => rw [Nat.le_zero.1 h]; exact Int.le_refl _
  | succ b ih =>
    rcases Nat.lt_or_ge a (b + 1) with h1 | h1
    · have := ih (by omega)
      have h2 := mdP_bd y (b + 1)
      simp only [cmP]
      omega
    · rw [show a = b + 1 by omega]; exact Int.le_refl _
theorem IsDate.yr {n y m d : Int} (h : IsDate n y m d) : ydP y ≤ n ∧ n < ydP (y + 1) := by
  obtain ⟨h1, h2, h3, h4, h5⟩ := h
  have e1 := cmP_succ y m h1
  have e2 := cmP_bd y (m - 1).toNat
  have e3 := cmP_mono y (a := m.toNat) (b := 12) (by omega)
  rw [cmP_12] at e3
  have e4 := ydP_succ y
  unfold dyP at h5
  omega
theorem IsDate.mo {n y m d : Int} (h : IsDate n y m d) : cmP y (m - 1).toNat ≤ n - ydP y ∧ n - ydP y < cmP y m.toNat := by
  obtain ⟨h1, h2, h3, h4, h5⟩ := h
  have e1 := cmP_succ y m h1
  unfold dyP at h5
  omega
theorem IsDate.one {n y m d y' m' d' : Int} (h : IsDate n y m d) (h' : IsDate n y' m' d') : y = y' ∧ m = m' ∧ d = d' := by
  have a := h.yr
  have b := h'.yr
  have e : y = y' := by
    rcases Int.lt_trichotomy y y' with c | c | c
    · have := ydP_le (a := y + 1) (b := y') (by omega); omega
    · exact c
    · have := ydP_le (a := y' + 1) (b := y) (by omega); omega
  subst e
  have a' := h.mo
  have b' := h'.mo
  have e : m = m' := by
    rcases Int.lt_trichotomy m m' with c | c | c
    · have := cmP_mono y (a := m.toNat) (b := (m' - 1).toNat) (by omega); omega
    · exact c
    · have := cmP_mono y (a := m'.toNat) (b := (m - 1).toNat) (by omega); omega
  subst e
  refine ⟨rfl, rfl, ?_⟩
  have g1 := h.day
  have g2 := h'.day
  unfold dyP at g1 g2
  omega
end Go.Tk
/- Dates, times, zones: what is printed reads back; each day has a date. Plain. -/
namespace Go.Tk
open Go Go.RowKit
theorem pre_one (c : UInt8) (l : List UInt8) : Lib.hasPrefix (c :: l) [c] = true := by unfold Lib.hasPrefix; simp
theorem pre_nil (l : List UInt8) : Lib.hasPrefix l [] = true := rfl
theorem pre_no {c d : UInt8} (l : List UInt8) (h : c ≠ d) : Lib.hasPrefix (c :: l) [d] = false := by unfold Lib.hasPrefix; rw [List.isPrefixOf_cons_cons, beq_false_of_ne (Ne.symm h)]; rfl
theorem idx_app {a b : List UInt8} (h : dgB a = true) : Lib.indexByte (a ++ 45 :: b) 45 = a.length := by
  induction a with
  | nil => rfl
  | cons c t ih =>
    have hc := (dg_43 h).2.1
    have := ih (dgB_sub (fun x hx => by simp [hx]) h)
    rw [List.cons_append]
    unfold Lib.indexByte
    rw [this, beq_false_of_ne hc, if_neg (by simp), if_neg (by simp)]
    simp
end Go.Tk
/- Orders: plain. -/
namespace Go.Tk
open Go Go.RowKit
/-- A comparison that is an order. -/
structure Gd {α : Type} (f : α → α → Int) : Prop where
  rng : ∀ a b, f a b = -1 ∨ f a b = 0 ∨ f a b = 1
  neg : ∀ a b, f b a = -f a b
  tr : ∀ a b c, f a b ≤ 0 → f b c ≤ 0 → f a c ≤ 0 ∧ (f a c = 0 → f a b = 0 ∧ f b c = 0)
variable {α β : Type}
theorem Gd.lt {f : α → α → Int} (h : Gd f) {a b c : α} (h1 : f a b = -1) (h2 : f b c ≤ 0) : f a c = -1 := by
  have h3 := h.tr a b c (by omega) h2
  rcases h.rng a c with h4 | h4 | h4
  · exact h4
  · have := (h3.2 h4).1; omega
  · have := h3.1; omega
theorem Gd.eq {f : α → α → Int} (h : Gd f) {a b c : α} (h1 : f a b = 0) (h2 : f b c = 0) : f a c = 0 := by
  have h3 := (h.tr a b c (by omega) (by omega)).1
  have h4 := (h.tr c b a (by rw [h.neg b c]; omega) (by rw [h.neg a b]; omega)).1
  rw [h.neg a c] at h4
  omega
theorem Gd.same {f : α → α → Int} (h : Gd f) {a b c : α} {x : Int} (h1 : f a b = x) (h2 : f b c = x) : f a c = x := by
  rcases h.rng a b with h3 | h3 | h3
  · rw [h3] at h1; subst h1; exact h.lt h3 (by omega)
  · rw [h3] at h1; subst h1; exact h.eq h3 h2
  · rw [h3] at h1; subst h1
    have h4 : f c a = -1 := h.lt (by rw [h.neg b c]; omega) (show f b a ≤ 0 by rw [h.neg a b]; omega)
    rw [h.neg c a, h4]; rfl
theorem cmB_rng : ∀ l m : List UInt8, cmB l m = -1 ∨ cmB l m = 0 ∨ cmB l m = 1
  | [], [] => .inr (.inl rfl)
  | [], _ :: _ => .inl rfl
  | _ :: _, [] => .inr (.inr rfl)
  | x :: l, y :: m => by
    simp only [cmB]
    split
    · exact .inl rfl
    · split
      · exact .inr (.inr rfl)
      · exact cmB_rng l m
end Go.Tk
