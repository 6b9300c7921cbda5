/- BitsBack: what was written is read: plain lemmas. -/
import Derived.Test.YtgkbkkhlnidigaaBitsInv
import Derived.Test.YtgkbkkhlnidigaaBitsOps
namespace Go.Proofs.Ytgkbkkhlnidigaa
open Go.RowKit Go.Tk
/-- The bytes of a call of a buffer. -/
def encO (o : OpV) : List Int := if o.kind = 1 then [o.n % 256] else if o.kind = 2 then o.bz else if o.kind = 3 then vz o.n else if o.kind = 4 then fz o.n (oct o.k) else []
/-- One reading again: the place, the error, whether all was right. -/
def agStep (z : List Int) (s : Nat × Int × Bool) (o : OpV) : Nat × Int × Bool :=
  if o.kind = 1 then ((tk z s.1 s.2.1 1).2.1, (tk z s.1 s.2.1 1).2.2, (tk z s.1 s.2.1 1).1.getD 0 0 == o.n % 256 && (tk z s.1 s.2.1 1).2.2 == 0 && s.2.2)
  else if o.kind = 2 then ((tk z s.1 s.2.1 o.bz.length).2.1, (tk z s.1 s.2.1 o.bz.length).2.2, sameB (tk z s.1 s.2.1 o.bz.length).1 o.bz && (tk z s.1 s.2.1 o.bz.length).2.2 == 0 && s.2.2)
  else if o.kind = 3 then ((upS z s.1 s.2.1 18446744073709551615).2.1, (upS z s.1 s.2.1 18446744073709551615).2.2, (upS z s.1 s.2.1 18446744073709551615).1 == o.n && (upS z s.1 s.2.1 18446744073709551615).2.2 == 0 && s.2.2)
  else if o.kind = 4 then ((tk z s.1 s.2.1 (oct o.k : Nat)).2.1, (tk z s.1 s.2.1 (oct o.k : Nat)).2.2, fxA (tk z s.1 s.2.1 (oct o.k : Nat)).1 (tk z s.1 s.2.1 (oct o.k : Nat)).1.length == o.n % 2 ^ (8 * oct o.k) && (tk z s.1 s.2.1 (oct o.k : Nat)).2.2 == 0 && s.2.2)
  else s
structure OpR (o : OpV) : Prop where
  n0 : 0 ≤ o.n
  n1 : o.n < 18446744073709551616
  kd : o.kind = 1 ∨ o.kind = 2 ∨ o.kind = 3 ∨ o.kind = 4
theorem tk_fits {z : List Int} {i : Nat} {a r : List Int} (h : z.drop i = a ++ r) (n : Nat) (hn : a.length = n) (hi : i ≤ z.length) : tk z i 0 (n : Int) = (a, i + n, 0) := by
  have hl : z.length - i = a.length + r.length := by have := congrArg List.length h; simpa using this
  unfold tk
  rw [if_neg (by simp), if_neg (by omega), h]
  subst hn
  simp
theorem tk_cut {z : List Int} {i : Nat} (n : Nat) (h : z.length - i < n) (hi : i ≤ z.length) : tk z i 0 (n : Int) = ([], i, 10) := by
  unfold tk
  rw [if_neg (by simp), if_pos (by omega)]
theorem stepA {z : List Int} {i : Nat} {ok : Bool} {o : OpV} {r : List Int} (ho : OpR o) (h : z.drop i = encO o ++ r) (hi : i ≤ z.length) : agStep z (i, 0, ok) o = (i + (encO o).length, 0, ok) := by
  unfold agStep
  unfold encO at *
  rcases ho.kd with hk | hk | hk | hk
  · rw [if_pos hk] at h ⊢
    have := tk_fits h 1 rfl hi
    simp only at this ⊢
    rw [if_pos hk, show ((1 : Nat) : Int) = 1 by rfl] at *
    rw [this]
    simp
  · rw [if_neg (by omega), if_pos hk] at h ⊢
    have := tk_fits h o.bz.length rfl hi
    rw [if_neg (by omega), if_pos hk]
    simp only [this]
    rw [sameB_self]
    simp
  · rw [if_neg (by omega), if_neg (by omega), if_pos hk] at h ⊢
    rw [if_neg (by omega), if_neg (by omega), if_pos hk]
    have hb := pk_back o.n r ho.n0 ho.n1
    have : upS z i 0 18446744073709551615 = (o.n, i + (vz o.n).length, 0) := by
      unfold upS
      rw [if_neg (by simp), h, hb, if_neg (by simp), if_neg (by simp only; have := ho.n1; omega)]
      simp
    simp only [this]
    simp
  · rw [if_neg (by omega), if_neg (by omega), if_neg (by omega), if_pos hk] at h ⊢
    have := tk_fits h (oct o.k) (fz_len _ _) hi
    rw [if_neg (by omega), if_neg (by omega), if_neg (by omega), if_pos hk]
    simp only [this, fz_len]
    rw [fz_fx o.n ho.n0 (oct o.k) (oct_le _)]
    simp
theorem stepB {z : List Int} {i j : Nat} {ok : Bool} {o : OpV} (ho : OpR o) (h : z.drop i = (encO o).take j) (hj : j < (encO o).length) (hi : i ≤ z.length) : agStep z (i, 0, ok) o = (i, 10, false) := by
  have hl : z.length - i = j := by have := congrArg List.length h; simp at this; omega
  unfold agStep
  unfold encO at *
  rcases ho.kd with hk | hk | hk | hk
  · rw [if_pos hk] at h hj
    have := tk_cut (z := z) (i := i) 1 (by simp at hj; omega) hi
    rw [show ((1 : Nat) : Int) = 1 by rfl] at this
    rw [if_pos hk]
    simp only [this]
    simp
  · rw [if_neg (by omega), if_pos hk] at h hj
    have := tk_cut (z := z) (i := i) o.bz.length (by omega) hi
    rw [if_neg (by omega), if_pos hk]
    simp only [this]
    simp
  · rw [if_neg (by omega), if_neg (by omega), if_pos hk] at h hj
    rw [if_neg (by omega), if_neg (by omega), if_pos hk]
    have : upS z i 0 18446744073709551615 = (0, i, 10) := by
      unfold upS
      rw [if_neg (by simp), h, pk_short o.n j ho.n0 ho.n1 hj, if_pos (by simp)]
    simp only [this]
    simp
  · rw [if_neg (by omega), if_neg (by omega), if_neg (by omega), if_pos hk] at h hj
    rw [fz_len] at hj
    have := tk_cut (z := z) (i := i) (oct o.k) (by omega) hi
    rw [if_neg (by omega), if_neg (by omega), if_neg (by omega), if_pos hk]
    simp only [this]
    simp
theorem stepE {z : List Int} {i : Nat} {e : Int} {ok : Bool} {o : OpV} (ho : OpR o) (he : e ≠ 0) : agStep z (i, e, ok) o = (i, e, false) := by
  have ht : ∀ n, tk z i e n = ([], i, e) := fun n => by unfold tk; rw [if_pos he]
  have hu : ∀ m, upS z i e m = (0, i, e) := fun m => by unfold upS; rw [if_pos he]
  have hb : (e == 0) = false := by simp [he]
  unfold agStep
  rcases ho.kd with hk | hk | hk | hk
  · rw [if_pos hk]; simp only [ht, hb]; simp
  · rw [if_neg (by omega), if_pos hk]; simp only [ht, hb]; simp
  · rw [if_neg (by omega), if_neg (by omega), if_pos hk]; simp only [hu, hb]; simp
  · rw [if_neg (by omega), if_neg (by omega), if_neg (by omega), if_pos hk]; simp only [ht, hb]; simp
theorem foldA {z : List Int} {ok : Bool} {r : List Int} : ∀ (l : List OpV) (i : Nat), (∀ o ∈ l, OpR o) → z.drop i = l.flatMap encO ++ r → i ≤ z.length → l.foldl (agStep z) (i, 0, ok) = (i + (l.flatMap encO).length, 0, ok)
  | [], i, _, _, _ => by simp
  | o :: l, i, ho, h, hi => by
    simp only [List.flatMap_cons, List.append_assoc] at h
    rw [List.foldl_cons, stepA (ho o (by simp)) h hi]
    have hl : z.length - i = (encO o).length + (l.flatMap encO ++ r).length := by have := congrArg List.length h; simpa using this
    have h2 : z.drop (i + (encO o).length) = l.flatMap encO ++ r := by
      rw [← List.drop_drop, h, List.drop_left]
    rw [foldA l _ (fun x hx => ho x (by simp [hx])) h2 (by omega)]
    simp only [List.flatMap_cons, List.length_append, Prod.mk.injEq, and_true]
    omega
theorem foldE {z : List Int} {e : Int} (he : e ≠ 0) : ∀ (l : List OpV) (i : Nat) (ok : Bool), (∀ o ∈ l, OpR o) → (l.foldl (agStep z) (i, e, ok)).2.1 = e ∧ (ok = false → (l.foldl (agStep z) (i, e, ok)).2.2 = false)
  | [], i, ok, _ => by simp
  | o :: l, i, ok, ho => by
    rw [List.foldl_cons, stepE (ho o (by simp)) he]
    have := foldE (z := z) he l i false (fun x hx => ho x (by simp [hx]))
    exact ⟨this.1, fun _ => this.2 rfl⟩
theorem foldB {z : List Int} {ok : Bool} : ∀ (l : List OpV) (i j : Nat), (∀ o ∈ l, OpR o) → z.drop i = (l.flatMap encO).take j → j < (l.flatMap encO).length → i ≤ z.length → (l.foldl (agStep z) (i, 0, ok)).2 = (10, false)
  | [], i, j, _, _, hj, _ => by simp at hj
  | o :: l, i, j, ho, h, hj, hi => by
    rw [List.foldl_cons]
    simp only [List.flatMap_cons, List.length_append] at h hj
    by_cases hlt : j < (encO o).length
    · rw [List.take_append_of_le_length (by omega)] at h
      rw [stepB (ho o (by simp)) h hlt hi]
      have := foldE (z := z) (e := 10) (by decide) l i false (fun x hx => ho x (by simp [hx]))
      exact Prod.ext this.1 (this.2 rfl)
    · rw [List.take_append, List.take_of_length_le (by omega)] at h
      have hl : z.length - i = (encO o).length + ((l.flatMap encO).take (j - (encO o).length)).length := by have := congrArg List.length h; simpa using this
      rw [stepA (ho o (by simp)) h hi]
      have h2 : z.drop (i + (encO o).length) = (l.flatMap encO).take (j - (encO o).length) := by
        rw [← List.drop_drop, h, List.drop_left]
      exact foldB l _ _ (fun x hx => ho x (by simp [hx])) h2 (by omega) (by omega)
end Go.Proofs.Ytgkbkkhlnidigaa
