/- Two texts behind one another. Plain. -/
import Derived.Test.YthloijpnbljpeaaUtfBk
set_option linter.unusedVariables false
set_option linter.unusedSimpArgs false
namespace Go.Tk
open Go Go.RowKit
theorem dec_app {a : List UInt8} (b : List UInt8) (h : (dec a).2 ≠ 0) : dec (a ++ b) = dec a := by
  obtain ⟨n, hn⟩ : ∃ n, n = (dec a).2 := ⟨_, rfl⟩
  have hle := (dec_le a).2
  rw [← hn] at h hle
  have ht : (a ++ b).take n = a.take n := List.take_append_of_le_length hle
  have h1 : (dec (a.take n)).2 = n := (dec_take a n (by omega) hle).2 hn.symm
  have h2 : (dec (a ++ b)).2 = n := (dec_take (a ++ b) n (by omega) (by simp; omega)).1 (by rw [ht]; exact h1)
  rw [← dec_take_fst (a ++ b) n (by omega) (by simp; omega) h2, ht, dec_take_fst a n (by omega) hle hn.symm]
theorem chk_app : ∀ (n : Nat) (a b : List UInt8) (x : Int), a.length ≤ n → 0 ≤ x → chkF a x = -1 → chkF (a ++ b) x = chkF b (x + a.length)
  | 0, a, b, x, h, _, _ => by
    obtain rfl : a = [] := List.eq_nil_of_length_eq_zero (by omega)
    simp
  | n + 1, a, b, x, h, hx, hc => by
    by_cases hl : a = []
    · subst hl; simp
    rw [chkF_step x hl] at hc
    split at hc
    · omega
    · rename_i h0
      have hle := (dec_le a).2
      rw [chkF_step x (l := a ++ b) (by simp [hl]), dec_app b h0, if_neg h0, List.drop_append_of_le_length hle, chk_app n _ b _ (by simp; omega) (by omega) hc]
      congr 1
      simp; omega
theorem chk_shift : ∀ (n : Nat) (b : List UInt8) (x d : Int), b.length ≤ n → 0 ≤ x → 0 ≤ d → chkF b (x + d) = if chkF b x = -1 then -1 else chkF b x + d
  | 0, b, x, d, h, _, _ => by
    obtain rfl : b = [] := List.eq_nil_of_length_eq_zero (by omega)
    rfl
  | n + 1, b, x, d, h, hx, hd => by
    by_cases hl : b = []
    · subst hl; rfl
    rw [chkF_step _ hl, chkF_step x hl]
    split
    · rw [if_neg (by omega)]
    · rw [← chk_shift n _ (x + (dec b).2) d (by simp; omega) (by omega) hd]
      congr 1; omega
theorem numF_app2 : ∀ (n : Nat) (l t : List UInt8) (acc r : Int), numF n l acc = some r → n ≤ l.length ∧ numF n (l ++ t) acc = some r
  | 0, l, t, acc, r, h => ⟨Nat.zero_le _, by cases l <;> cases t <;> exact h⟩
  | n + 1, [], t, acc, r, h => by simp [numF] at h
  | n + 1, b :: l, t, acc, r, h => by
    simp only [List.cons_append, numF] at h ⊢
    split at h
    · exact absurd h (by simp)
    · rename_i h1
      obtain ⟨h2, h3⟩ := numF_app2 n l t _ r h
      rw [if_neg h1]
      exact ⟨by simp; omega, h3⟩
theorem numI_app {l : List UInt8} {n : Nat} (t : List UInt8) (h : 0 ≤ numI l n) : n ≤ l.length ∧ numI (l ++ t) n = numI l n := by
  unfold numI at h ⊢
  cases hq : numF n l 0 with
  | none => rw [hq] at h; exact absurd h (by decide)
  | some r =>
    obtain ⟨h1, h2⟩ := numF_app2 n l t 0 r hq
    rw [h2]
    exact ⟨h1, rfl⟩
theorem escI_app {a : List UInt8} {way : Int} (b : List UInt8) (h : (escI a way).2 ≠ 0) : escI (a ++ b) way = escI a way ∧ (escI a way).2 ≤ a.length := by
  match a with
  | [] => exact absurd rfl h
  | [_] => exact absurd rfl h
  | p :: c :: t =>
    simp only [escI, List.cons_append] at h ⊢
    split
    · rename_i h1
      rw [if_pos h1] at h
      split at h
      · exact absurd rfl h
      · rename_i h2
        obtain ⟨h3, h4⟩ := numI_app b (by omega : 0 ≤ numI t 4)
        rw [h4, if_neg h2]
        exact ⟨rfl, by simp; omega⟩
    · rename_i h1
      rw [if_neg h1] at h
      split
      · rename_i h5
        rw [if_pos h5] at h
        split at h
        · exact absurd rfl h
        · rename_i h2
          obtain ⟨h3, h4⟩ := numI_app b (by omega : 0 ≤ numI t 8)
          rw [h4, if_neg h2]
          exact ⟨rfl, by simp; omega⟩
      · split
        · exact ⟨rfl, by simp⟩
        · rename_i h5 h6
          rw [if_neg h5, if_neg h6] at h
          exact absurd rfl h
theorem consU_ok {b : List UInt8} {r : List UInt8 × Int × Int} (h : (consU b r).2.2 = 0) : r.2.2 = 0 ∧ consU b r = (b ++ r.1, r.2) := by
  unfold consU at h ⊢
  split
  · exact ⟨by assumption, rfl⟩
  · rename_i h1; rw [if_neg h1] at h; exact absurd h h1
theorem un_app : ∀ (n : Nat) (a b : List UInt8) (x way : Int), a.length ≤ n → (unF a x way).2.2 = 0 → unF (a ++ b) x way = consU (unF a x way).1 (unF b (x + a.length) way)
  | 0, a, b, x, way, h, _ => by
    obtain rfl : a = [] := List.eq_nil_of_length_eq_zero (by omega)
    rw [unF_nil, List.nil_append, unF_start]; simp
  | n + 1, a, b, x, way, h, hc => by
    by_cases hl : a = []
    · subst hl; rw [unF_nil, List.nil_append, unF_start]; simp
    rw [unF_step x way hl] at hc ⊢
    by_cases h0 : (dec a).2 = 0
    · rw [if_pos h0] at hc; (simp at hc)
    rw [if_neg h0] at hc ⊢
    have hle := (dec_le a).2
    rw [unF_step x way (l := a ++ b) (by simp [hl]), dec_app b h0, if_neg h0]
    by_cases h92 : (dec a).1 = 92
    · rw [if_pos h92] at hc ⊢
      by_cases he : (escI a way).2 = 0
      · rw [if_pos he] at hc; (simp at hc)
      rw [if_neg he] at hc ⊢
      obtain ⟨e1, e2⟩ := escI_app b he
      rw [if_pos h92, e1, if_neg he, List.drop_append_of_le_length e2]
      obtain ⟨c1, c2⟩ := consU_ok hc
      rw [un_app n _ b _ way (by simp; omega) c1, c2, consU_cat]
      congr 2
      simp; omega
    · rw [if_neg h92] at hc ⊢
      rw [if_neg h92, List.drop_append_of_le_length hle]
      obtain ⟨c1, c2⟩ := consU_ok hc
      rw [un_app n _ b _ way (by simp; omega) c1, c2, consU_cat]
      congr 2
      simp; omega
theorem un_shift : ∀ (n : Nat) (b : List UInt8) (x d way : Int), b.length ≤ n → unF b (x + d) way = ((unF b x way).1, if (unF b x way).2.2 = 0 then (unF b x way).2.1 else (unF b x way).2.1 + d, (unF b x way).2.2)
  | 0, b, x, d, way, h => by
    obtain rfl : b = [] := List.eq_nil_of_length_eq_zero (by omega)
    rfl
  | n + 1, b, x, d, way, h => by
    by_cases hl : b = []
    · subst hl; rfl
    rw [unF_step _ way hl, unF_step x way hl]
    have key : ∀ (e : List UInt8) (k : Nat), 1 ≤ k → consU e (unF (b.drop k) (x + d + k) way) = ((consU e (unF (b.drop k) (x + k) way)).1, if (consU e (unF (b.drop k) (x + k) way)).2.2 = 0 then (consU e (unF (b.drop k) (x + k) way)).2.1 else (consU e (unF (b.drop k) (x + k) way)).2.1 + d, (consU e (unF (b.drop k) (x + k) way)).2.2) := by
      intro e k hk
      have hb := List.length_pos_iff.2 hl
      rw [show x + d + (k : Int) = (x + k) + d by omega, un_shift n (b.drop k) (x + k) d way (by simp; omega)]
      obtain ⟨r1, r2, r3⟩ := unF (b.drop k) (x + k) way
      unfold consU
      simp only
      by_cases h3 : r3 = 0
      · simp [h3]
      · simp [h3]
    by_cases h0 : (dec b).2 = 0
    · rw [if_pos h0, if_pos h0]; rfl
    rw [if_neg h0, if_neg h0]
    by_cases h92 : (dec b).1 = 92
    · rw [if_pos h92, if_pos h92]
      by_cases he : (escI b way).2 = 0
      · rw [if_pos he, if_pos he]; rfl
      rw [if_neg he, if_neg he]
      exact key _ _ (by omega)
    · rw [if_neg h92, if_neg h92]
      exact key _ _ (by omega)
/-- Where there is no fault, no place is told. -/
theorem un_zero : ∀ (n : Nat) (b : List UInt8) (x way : Int), b.length ≤ n → (unF b x way).2.2 = 0 → (unF b x way).2.1 = 0
  | 0, b, x, way, h, _ => by
    obtain rfl : b = [] := List.eq_nil_of_length_eq_zero (by omega)
    rfl
  | n + 1, b, x, way, h, hc => by
    by_cases hl : b = []
    · subst hl; rfl
    rw [unF_step x way hl] at hc ⊢
    have hb := List.length_pos_iff.2 hl
    by_cases h0 : (dec b).2 = 0
    · rw [if_pos h0] at hc; (simp at hc)
    rw [if_neg h0] at hc ⊢
    by_cases h92 : (dec b).1 = 92
    · rw [if_pos h92] at hc ⊢
      by_cases he : (escI b way).2 = 0
      · rw [if_pos he] at hc; (simp at hc)
      rw [if_neg he] at hc ⊢
      obtain ⟨c1, c2⟩ := consU_ok hc
      rw [c2]
      exact un_zero n _ _ way (by simp; omega) c1
    · rw [if_neg h92] at hc ⊢
      obtain ⟨c1, c2⟩ := consU_ok hc
      rw [c2]
      exact un_zero n _ _ way (by simp; omega) c1
end Go.Tk
