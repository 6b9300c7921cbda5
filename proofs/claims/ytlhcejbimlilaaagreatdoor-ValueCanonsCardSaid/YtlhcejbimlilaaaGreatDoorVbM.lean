/- Orders: plain. -/
import Derived.Test.YtlhcejbimlilaaaGreatDoorVaM
set_option linter.unusedVariables false
set_option linter.unusedSimpArgs false
namespace Go.Tk
open Go Go.RowKit
/-- A comparison that is an order. -/
structure Gd {α : Type} (f : α → α → Int) : Prop where
  rng : ∀ a b, f a b = -1 ∨ f a b = 0 ∨ f a b = 1
  neg : ∀ a b, f b a = -f a b
  tr : ∀ a b c, f a b ≤ 0 → f b c ≤ 0 → f a c ≤ 0 ∧ (f a c = 0 → f a b = 0 ∧ f b c = 0)
variable {α β : Type}
theorem Gd.lt {f : α → α → Int} (h : Gd f) {a b c : α} (h1 : f a b = -1) (h2 : f b c ≤ 0) : f a c = -1 := by
  have h3 := h.tr a b c (by omega) h2
  rcases h.rng a c with h4 | h4 | h4
  · exact h4
  · have := (h3.2 h4).1; omega
  · have := h3.1; omega
theorem Gd.lt' {f : α → α → Int} (h : Gd f) {a b c : α} (h1 : f a b ≤ 0) (h2 : f b c = -1) : f a c = -1 := by
  have h3 := h.tr a b c h1 (by omega)
  rcases h.rng a c with h4 | h4 | h4
  · exact h4
  · have := (h3.2 h4).2; omega
  · have := h3.1; omega
theorem Gd.eq {f : α → α → Int} (h : Gd f) {a b c : α} (h1 : f a b = 0) (h2 : f b c = 0) : f a c = 0 := by
  have h3 := (h.tr a b c (by omega) (by omega)).1
  have h4 := (h.tr c b a (by rw [h.neg b c]; omega) (by rw [h.neg a b]; omega)).1
  rw [h.neg a c] at h4
  omega
theorem Gd.same {f : α → α → Int} (h : Gd f) {a b c : α} {x : Int} (h1 : f a b = x) (h2 : f b c = x) : f a c = x := by
  rcases h.rng a b with h3 | h3 | h3
  · rw [h3] at h1; subst h1; exact h.lt h3 (by omega)
  · rw [h3] at h1; subst h1; exact h.eq h3 h2
  · rw [h3] at h1; subst h1
    have h4 : f c a = -1 := h.lt (by rw [h.neg b c]; omega) (show f b a ≤ 0 by rw [h.neg a b]; omega)
    rw [h.neg c a, h4]; rfl
theorem Gd.pull {f : α → α → Int} (h : Gd f) (k : β → α) : Gd (fun a b => f (k a) (k b)) := ⟨fun _ _ => h.rng _ _, fun _ _ => h.neg _ _, fun _ _ _ => h.tr _ _ _⟩
theorem Gd.lex {f g : α → α → Int} (h : Gd f) (k : Gd g) : Gd (fun a b => if f a b = 0 then g a b else f a b) := by
  refine ⟨fun a b => ?_, fun a b => ?_, fun a b c => ?_⟩
  · split
    · exact k.rng a b
    · exact h.rng a b
  · rw [h.neg a b]
    by_cases h1 : f a b = 0
    · rw [if_pos (by omega), if_pos h1, k.neg]
    · rw [if_neg (by omega), if_neg h1]
  · by_cases h1 : f a b = 0
    · by_cases h2 : f b c = 0
      · rw [if_pos h1, if_pos h2, if_pos (h.eq h1 h2)]
        exact k.tr a b c
      · rw [if_pos h1, if_neg h2]
        intro h3 h4
        have h5 : f a c = -1 := h.lt' (b := b) (by omega) (by rcases h.rng b c with h6 | h6 | h6 <;> omega)
        rw [if_neg (by omega), h5]
        exact ⟨by omega, fun h => by omega⟩
    · rw [if_neg h1]
      intro h3 h4
      have h7 : f a b = -1 := by rcases h.rng a b with h6 | h6 | h6 <;> omega
      have h8 : f b c ≤ 0 := by
        by_cases h2 : f b c = 0
        · omega
        · rw [if_neg h2] at h4; exact h4
      have h5 : f a c = -1 := h.lt h7 h8
      rw [if_neg (by omega), h5]
      exact ⟨by omega, fun h => by omega⟩
theorem gd_cmZ : Gd cmZ := by
  refine ⟨fun a b => ?_, fun a b => cmZ_neg a b, fun a b c => ?_⟩
  · unfold cmZ; split
    · exact .inl rfl
    · split
      · exact .inr (.inr rfl)
      · exact .inr (.inl rfl)
  · unfold cmZ
    intro h1 h2
    split at h1
    · split at h2
      · rw [if_pos (by omega)]; exact ⟨by omega, fun h => by omega⟩
      · split at h2
        · omega
        · rw [if_pos (by omega)]; exact ⟨by omega, fun h => by omega⟩
    · split at h1
      · omega
      · split at h2
        · rw [if_pos (by omega)]; exact ⟨by omega, fun h => by omega⟩
        · split at h2
          · omega
          · rw [if_neg (by omega), if_neg (by omega), if_neg (by omega), if_neg (by omega), if_neg (by omega), if_neg (by omega)]; exact ⟨by omega, fun _ => ⟨rfl, rfl⟩⟩
theorem cmB_rng : ∀ l m : List UInt8, cmB l m = -1 ∨ cmB l m = 0 ∨ cmB l m = 1
  | [], [] => .inr (.inl rfl)
  | [], _ :: _ => .inl rfl
  | _ :: _, [] => .inr (.inr rfl)
  | x :: l, y :: m => by
    simp only [cmB]
    split
    · exact .inl rfl
    · split
      · exact .inr (.inr rfl)
      · exact cmB_rng l m
theorem cmB_tr : ∀ l m k : List UInt8, cmB l m ≤ 0 → cmB m k ≤ 0 → cmB l k ≤ 0 ∧ (cmB l k = 0 → cmB l m = 0 ∧ cmB m k = 0)
  | [], [], [] => fun _ _ => ⟨by simp [cmB], fun _ => ⟨rfl, rfl⟩⟩
  | [], [], _ :: _ => fun _ _ => ⟨by simp [cmB], fun h => by simp [cmB] at h⟩
  | [], _ :: _, [] => fun _ h => by simp [cmB] at h
  | [], _ :: _, _ :: _ => fun _ _ => ⟨by simp [cmB], fun h => by simp [cmB] at h⟩
  | _ :: _, [], _ => fun h => by simp [cmB] at h
  | _ :: _, _ :: _, [] => fun _ h => by simp [cmB] at h
  | x :: l, y :: m, z :: k => by
    simp only [cmB]
    intro h1 h2
    have xy : x < y ∨ x = y ∨ y < x := by
      rcases Nat.lt_trichotomy x.toNat y.toNat with h | h | h
      · exact .inl (UInt8.lt_iff_toNat_lt.2 h)
      · exact .inr (.inl (UInt8.toNat_inj.1 h))
      · exact .inr (.inr (UInt8.lt_iff_toNat_lt.2 h))
    have yz : y < z ∨ y = z ∨ z < y := by
      rcases Nat.lt_trichotomy y.toNat z.toNat with h | h | h
      · exact .inl (UInt8.lt_iff_toNat_lt.2 h)
      · exact .inr (.inl (UInt8.toNat_inj.1 h))
      · exact .inr (.inr (UInt8.lt_iff_toNat_lt.2 h))
    have irr : ∀ a : UInt8, ¬ a < a := fun a h => by have := UInt8.lt_iff_toNat_lt.1 h; omega
    have asy : ∀ {a b : UInt8}, a < b → ¬ b < a := fun h g => by have := UInt8.lt_iff_toNat_lt.1 h; have := UInt8.lt_iff_toNat_lt.1 g; omega
    have trn : ∀ {a b c : UInt8}, a < b → b < c → a < c := fun h g => UInt8.lt_iff_toNat_lt.2 (by have := UInt8.lt_iff_toNat_lt.1 h; have := UInt8.lt_iff_toNat_lt.1 g; omega)
    rcases xy with a | rfl | a
    · have hxz : x < z := by
        rcases yz with b | rfl | b
        · exact trn a b
        · exact a
        · rw [if_neg (asy b), if_pos b] at h2; omega
      rw [if_pos hxz]
      exact ⟨by omega, fun h => by omega⟩
    · rw [if_neg (irr x), if_neg (irr x)] at h1
      rcases yz with b | rfl | b
      · rw [if_pos b]
        exact ⟨by omega, fun h => by omega⟩
      · simp only [if_neg (irr x)] at h2 ⊢
        exact cmB_tr l m k h1 h2
      · rw [if_neg (asy b), if_pos b] at h2; omega
    · rw [if_neg (asy a), if_pos a] at h1; omega
theorem gd_cmB : Gd cmB := ⟨cmB_rng, fun a b => cmB_neg a b, cmB_tr⟩
/-- Numbers that are none but NaN. -/
def rgN (r : Int) (n : Nm) (m : Nm) : Int := r * (if cmZ n.pw m.pw = 0 then cmB n.dg m.dg else cmZ n.pw m.pw)
theorem gd_pd : Gd (fun n m : Nm => if cmZ n.pw m.pw = 0 then cmB n.dg m.dg else cmZ n.pw m.pw) := Gd.lex (gd_cmZ.pull Nm.pw) (gd_cmB.pull Nm.dg)
theorem gd_turn {f : α → α → Int} (h : Gd f) : Gd (fun a b => -f a b) := by
  refine ⟨fun a b => ?_, fun a b => ?_, fun a b c => ?_⟩
  · rcases h.rng a b with h1 | h1 | h1 <;> rw [h1] <;> simp
  · rw [h.neg a b]
  · intro h1 h2
    have h3 := h.tr c b a (by rw [h.neg b c]; omega) (by rw [h.neg a b]; omega)
    rw [h.neg a c, h.neg b c, h.neg a b] at h3
    exact ⟨by omega, fun h4 => by have := h3.2 (by omega); omega⟩
theorem gd_rk (r : Int) (hr : r = 1 ∨ r = -1) : Gd (rgN r) := by
  rcases hr with rfl | rfl
  · have : rgN 1 = fun n m : Nm => if cmZ n.pw m.pw = 0 then cmB n.dg m.dg else cmZ n.pw m.pw := by funext n m; unfold rgN; rw [Int.one_mul]
    rw [this]; exact gd_pd
  · have : rgN (-1) = fun n m : Nm => -(if cmZ n.pw m.pw = 0 then cmB n.dg m.dg else cmZ n.pw m.pw) := by funext n m; unfold rgN; omega
    rw [this]; exact gd_turn gd_pd
/-- What holds between the first and the second number, and the second and the third, holds between the first and the third. -/
theorem agN_tr {n m k : Nm} {x : Int} (h1 : agN n m = (x, true)) (h2 : agN m k = (x, true)) : agN n k = (x, true) := by
  unfold agN at h1 h2 ⊢
  by_cases a1 : n.nan = true ∨ m.nan = true
  · rw [if_pos a1] at h1; cases h1
  by_cases a2 : m.nan = true ∨ k.nan = true
  · rw [if_pos a2] at h2; cases h2
  rw [if_neg a1] at h1
  rw [if_neg a2] at h2
  rw [if_neg (fun h => h.elim (fun h => a1 (.inl h)) (fun h => a2 (.inr h)))]
  obtain ⟨p, hp⟩ : ∃ p, p = rkN n := ⟨_, rfl⟩
  obtain ⟨q, hq⟩ : ∃ p, p = rkN m := ⟨_, rfl⟩
  obtain ⟨r, hr⟩ : ∃ p, p = rkN k := ⟨_, rfl⟩
  rw [← hp, ← hq] at h1
  rw [← hq, ← hr] at h2
  rw [← hp, ← hr]
  by_cases c1 : p ≠ q ∨ p ≠ 1 ∧ p ≠ -1
  · rw [if_pos c1] at h1
    have e1 := (Prod.mk.inj h1).1
    by_cases c2 : q ≠ r ∨ q ≠ 1 ∧ q ≠ -1
    · rw [if_pos c2] at h2
      have e2 := (Prod.mk.inj h2).1
      have e3 := gd_cmZ.same e1 e2
      by_cases c3 : p ≠ r ∨ p ≠ 1 ∧ p ≠ -1
      · rw [if_pos c3, e3]
      · exfalso
        have hpr : p = r := by omega
        subst hpr
        have e0 : cmZ p p = 0 := by unfold cmZ; simp
        rw [e0] at e3
        subst e3
        unfold cmZ at e1
        split at e1
        · omega
        · split at e1
          · omega
          · omega
    · have hqr : q = r := by omega
      subst hqr
      rw [if_pos (by omega)]
      rw [e1]
  · have hpq : p = q := by omega
    subst hpq
    rw [if_neg c1] at h1
    by_cases c2 : p ≠ r ∨ p ≠ 1 ∧ p ≠ -1
    · rw [if_pos c2] at h2 ⊢
      exact h2
    · rw [if_neg c2] at h2 ⊢
      have e1 := (Prod.mk.inj h1).1
      have e2 := (Prod.mk.inj h2).1
      have e3 := (gd_rk p (by omega)).same (a := n) (b := m) (c := k) e1 e2
      exact Prod.ext e3 rfl
end Go.Tk
