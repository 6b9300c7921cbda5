/- Texts that are UTF-8 and have no byte that is barred: put together and cut at an ASCII byte. Plain. -/
import Derived.Test.YthdkhlkmcebfeaaIriRel
set_option linter.unusedVariables false
set_option linter.unusedSimpArgs false
namespace Go.Tk
open Go Go.RowKit
def Vd (l : List UInt8) : Prop := chkF l 0 = -1
theorem chk_any : ∀ (n : Nat) (l : List UInt8) (x y : Int), l.length ≤ n → 0 ≤ x → 0 ≤ y → (chkF l x = -1 ↔ chkF l y = -1)
  | 0, l, x, y, h, _, _ => by
    obtain rfl : l = [] := List.eq_nil_of_length_eq_zero (by omega)
    simp [chkF_nil]
  | n + 1, l, x, y, h, hx, hy => by
    by_cases hl : l = []
    · subst hl; simp [chkF_nil]
    · rw [chkF_step x hl, chkF_step y hl]
      by_cases hd : (dec l).2 = 0
      · rw [if_pos hd, if_pos hd]; omega
      · rw [if_neg hd, if_neg hd]
        have hp := List.length_pos_iff.2 hl
        exact chk_any n _ _ _ (by simp; omega) (by omega) (by omega)
theorem Vd_nil : Vd [] := chkF_nil 0
theorem Vd_step {l : List UInt8} (h : l ≠ []) : Vd l ↔ (dec l).2 ≠ 0 ∧ Vd (l.drop (dec l).2) := by
  unfold Vd
  rw [chkF_step 0 h]
  by_cases hd : (dec l).2 = 0
  · rw [if_pos hd]; simp [hd]
  · rw [if_neg hd]
    simp only [ne_eq, hd, not_false_eq_true, true_and]
    exact chk_any _ _ _ _ (Nat.le_refl _) (by omega) (by omega)
theorem dec_cat {a b : List UInt8} (h : (dec a).2 ≠ 0) : (dec (a ++ b)).2 = (dec a).2 := by
  have h2 := (dec_le a).2
  have := (dec_take (a ++ b) (dec a).2 (by omega) (by simp; omega)).1
  rw [List.take_append_of_le_length h2] at this
  exact this ((dec_take a (dec a).2 (by omega) h2).2 rfl)
theorem Vd_cat : ∀ (n : Nat) (a b : List UInt8), a.length ≤ n → Vd a → Vd b → Vd (a ++ b)
  | 0, a, b, h, _, hb => by
    obtain rfl : a = [] := List.eq_nil_of_length_eq_zero (by omega)
    exact hb
  | n + 1, a, b, h, ha, hb => by
    by_cases hl : a = []
    · subst hl; exact hb
    · obtain ⟨h1, h2⟩ := (Vd_step hl).1 ha
      refine (Vd_step (by simp [hl])).2 ⟨by rw [dec_cat h1]; exact h1, ?_⟩
      rw [dec_cat h1, List.drop_append_of_le_length (dec_le a).2]
      exact Vd_cat n _ _ (by simp; have := List.length_pos_iff.2 hl; omega) h2 hb
theorem encZ_tail {r : Int} (h : scalarB r = true) (i : Nat) (h1 : 1 ≤ i) (z : Int) (hz : (encZ r)[i]? = some z) : 128 ≤ z := by
  obtain ⟨s0, s1, s2⟩ := (scalarB_iff r).1 h
  by_cases a : r < 128
  · rw [encZ1 a] at hz
    match i, h1 with
    | i + 1, _ => simp at hz
  by_cases b : r < 2048
  · rw [encZ2 a b] at hz
    match i, h1 with
    | 1, _ => simp at hz; omega
    | i + 2, _ => simp at hz
  by_cases c : r < 65536
  · rw [encZ3 a b c] at hz
    match i, h1 with
    | 1, _ => simp at hz; omega
    | 2, _ => simp at hz; omega
    | i + 3, _ => simp at hz
  · rw [encZ4 a b c] at hz
    match i, h1 with
    | 1, _ => simp at hz; omega
    | 2, _ => simp at hz; omega
    | 3, _ => simp at hz; omega
    | i + 4, _ => simp at hz
theorem dec_short {a b : List UInt8} {x : UInt8} (ha : a ≠ []) (hx : x.toNat < 128) (h : (dec (a ++ x :: b)).2 ≠ 0) : (dec (a ++ x :: b)).2 ≤ a.length := by
  apply Classical.byContradiction
  intro hn
  obtain ⟨h1, h2, h3⟩ := dec_yes (l := a ++ x :: b) (r := (dec (a ++ x :: b)).1) (n := (dec (a ++ x :: b)).2) rfl h
  have hp := List.length_pos_iff.2 ha
  have hz : (encZ (dec (a ++ x :: b)).1)[a.length]? = some (x.toNat : Int) := by
    rw [h2, ← nums_take]
    rw [List.getElem?_take, if_pos (by omega)]
    simp [nums]
  have := encZ_tail h1 a.length (by omega) _ hz
  omega
theorem Vd_cut : ∀ (n : Nat) (a b : List UInt8) (x : UInt8), a.length ≤ n → x.toNat < 128 → Vd (a ++ x :: b) → Vd a ∧ Vd (x :: b)
  | 0, a, b, x, h, hx, hv => by
    obtain rfl : a = [] := List.eq_nil_of_length_eq_zero (by omega)
    exact ⟨Vd_nil, hv⟩
  | n + 1, a, b, x, h, hx, hv => by
    by_cases hl : a = []
    · subst hl; exact ⟨Vd_nil, hv⟩
    · obtain ⟨h1, h2⟩ := (Vd_step (by simp)).1 hv
      have h3 := dec_short hl hx h1
      have h4 : (dec a).2 = (dec (a ++ x :: b)).2 := by
        have e1 := (dec_take (a ++ x :: b) (dec (a ++ x :: b)).2 (by omega) (by simp; omega)).2 rfl
        rw [List.take_append_of_le_length h3] at e1
        exact (dec_take a _ (by omega) h3).1 e1
      rw [List.drop_append_of_le_length h3] at h2
      have hp := List.length_pos_iff.2 hl
      obtain ⟨v1, v2⟩ := Vd_cut n (a.drop (dec (a ++ x :: b)).2) b x (by simp; omega) hx h2
      exact ⟨(Vd_step hl).2 ⟨by rw [h4]; exact h1, by rw [h4]; exact v1⟩, v2⟩
theorem dec_ascii {b : List UInt8} {x : UInt8} (hx : x.toNat < 128) : (dec (x :: b)).2 = 1 := by
  have hs : scalarB (x.toNat : Int) = true := (scalarB_iff _).2 ⟨by omega, by omega, by omega⟩
  have he : encZ (x.toNat : Int) = [(x.toNat : Int)] := encZ1 (by omega)
  have := dec_enc (x :: b) (x.toNat : Int) hs (by rw [he]; exact ⟨nums b, by simp [nums]⟩)
  rw [this, he]; rfl
theorem Vd_ascii {b : List UInt8} {x : UInt8} (hx : x.toNat < 128) : Vd (x :: b) ↔ Vd b := by
  rw [Vd_step (by simp), dec_ascii hx]; simp
/-- UTF-8, and no byte that is barred. -/
def Gd (l : List UInt8) : Prop := Vd l ∧ ∀ b ∈ l, barB b = false
theorem Gd_nil : Gd [] := ⟨Vd_nil, by simp⟩
theorem Gd.cat {a b : List UInt8} (ha : Gd a) (hb : Gd b) : Gd (a ++ b) :=
  ⟨Vd_cat _ a b (Nat.le_refl _) ha.1 hb.1, fun x hx => by rcases List.mem_append.1 hx with h | h; exact ha.2 x h; exact hb.2 x h⟩
theorem Gd.cut {a b : List UInt8} {x : UInt8} (hx : x.toNat < 128) (h : Gd (a ++ x :: b)) : Gd a ∧ Gd (x :: b) := by
  obtain ⟨h1, h2⟩ := Vd_cut _ a b x (Nat.le_refl _) hx h.1
  exact ⟨⟨h1, fun y hy => h.2 y (by simp [hy])⟩, ⟨h2, fun y hy => h.2 y (List.mem_append_right _ hy)⟩⟩
theorem Gd.tail {b : List UInt8} {x : UInt8} (hx : x.toNat < 128) (h : Gd (x :: b)) : Gd b := ⟨(Vd_ascii hx).1 h.1, fun y hy => h.2 y (by simp [hy])⟩
theorem Gd.cons {b : List UInt8} {x : UInt8} (hx : x.toNat < 128) (hb : barB x = false) (h : Gd b) : Gd (x :: b) :=
  ⟨(Vd_ascii hx).2 h.1, fun y hy => by rcases List.mem_cons.1 hy with e | e; rw [e]; exact hb; exact h.2 y e⟩
/-- A cut where what follows is nothing or begins with an ASCII byte. -/
theorem Gd.cut' {a b : List UInt8} (h : Gd (a ++ b)) (hb : b = [] ∨ ∃ x t, b = x :: t ∧ x.toNat < 128) : Gd a ∧ Gd b := by
  rcases hb with rfl | ⟨x, t, rfl, hx⟩
  · exact ⟨by simpa using h, Gd_nil⟩
  · exact h.cut hx
theorem refE_iff (l : List UInt8) : refE l = 0 ↔ l.length ≤ 65536 ∧ Gd l := by
  have hge := Go.Proofs.Ythdkhlkmcebfeaa.chkF_ge l.length l 0 (by omega)
  have hge' : -1 ≤ chkF l 0 := hge
  unfold refE Gd Vd
  constructor
  · intro h
    split at h
    · simp at h
    · split at h
      · simp at h
      · split at h
        · simp at h
        · rename_i h1 h2 h3
          refine ⟨by omega, by omega, fun b hb => ?_⟩
          cases hq : barB b with
          | false => rfl
          | true =>
            exfalso
            apply h3
            obtain ⟨i, hi, rfl⟩ := List.getElem_of_mem hb
            clear h1 h2 h3 hge hge'
            induction l generalizing i with
            | nil => simp at hi
            | cons y l ih =>
              simp only [unt]
              cases hy : barB y with
              | true => simp
              | false =>
                cases i with
                | zero => simp at hq; rw [hy] at hq; cases hq
                | succ i =>
                  have := ih i (by simpa using hi) (List.getElem_mem _) (by simpa using hq)
                  simp
                  exact this
  · rintro ⟨h1, h2, h3⟩
    rw [if_neg (by omega), if_neg (by omega), if_neg (by rw [unt_none _ _ h3]; omega)]
end Go.Tk
