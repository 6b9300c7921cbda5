/- How far a text is UTF-8, and what stands behind. Plain. -/
import Derived.Test.YthloijpnbljpeaaUtfBg
set_option linter.unusedVariables false
set_option linter.unusedSimpArgs false
namespace Go.Tk
open Go Go.RowKit
theorem chk_split : ∀ (n : Nat) (p : List UInt8) (x : Int), p.length ≤ n → 0 ≤ x → chkF p x = -1 ∨ ∃ k : Nat, k < p.length ∧ chkF p x = x + k ∧ chkF (p.take k) x = -1 ∧ (dec (p.drop k)).2 = 0
  | 0, p, x, h, _ => by
    obtain rfl : p = [] := List.eq_nil_of_length_eq_zero (by omega)
    exact .inl rfl
  | n + 1, p, x, h, hx => by
    by_cases hl : p = []
    · subst hl; exact .inl rfl
    have hp := List.length_pos_iff.2 hl
    rw [chkF_step x hl]
    by_cases h0 : (dec p).2 = 0
    · rw [if_pos h0]
      exact .inr ⟨0, hp, by simp, rfl, h0⟩
    rw [if_neg h0]
    have hle := (dec_le p).2
    rcases chk_split n (p.drop (dec p).2) (x + (dec p).2) (by simp; omega) (by omega) with h1 | ⟨k, h1, h2, h3, h4⟩
    · exact .inl h1
    · refine .inr ⟨(dec p).2 + k, by simp at h1; omega, by rw [h2]; simp; omega, ?_, by rw [← List.drop_drop]; exact h4⟩
      have e : p.take ((dec p).2 + k) = p.take (dec p).2 ++ (p.drop (dec p).2).take k := by rw [List.take_add]
      have e0 : p.take (dec p).2 ≠ [] := fun h => by
        have := congrArg List.length h
        rw [List.length_take, List.length_nil] at this; omega
      have e1 : dec (p.take (dec p).2) = dec p := dec_take_fst p _ (by omega) hle rfl
      have e2 : (p.take (dec p).2).length = (dec p).2 := by rw [List.length_take]; omega
      rw [e, chkF_step x (by simp [e0]), dec_app _ (by rw [e1]; exact h0), e1, if_neg h0]
      rw [List.drop_append_of_le_length (by omega), List.drop_of_length_le (by omega), List.nil_append]
      exact h3
/-- How many bytes are UTF-8; what stands behind them. -/
def kF (p : List UInt8) : Nat := if chkF p 0 = -1 then p.length else (chkF p 0).toNat
def tlF (p : List UInt8) : List UInt8 := p.drop (kF p)
theorem k_le (p : List UInt8) : kF p ≤ p.length := by
  unfold kF
  rcases chk_split p.length p 0 (Nat.le_refl _) (Int.le_refl _) with h | ⟨k, h1, h2, _⟩
  · rw [if_pos h]; exact Nat.le_refl _
  · rw [if_neg (by omega), h2]; omega
theorem tl_len (p : List UInt8) : (tlF p).length = p.length - kF p := by simp [tlF]
theorem k_front (p : List UInt8) : chkF (p.take (kF p)) 0 = -1 := by
  unfold kF
  rcases chk_split p.length p 0 (Nat.le_refl _) (Int.le_refl _) with h | ⟨k, h1, h2, h3, _⟩
  · rw [if_pos h, List.take_length]; exact h
  · rw [if_neg (by omega), h2]
    have : ((0 : Int) + k).toNat = k := by omega
    rw [this]; exact h3
theorem tl_nil {p : List UInt8} (h : chkF p 0 = -1) : tlF p = [] := by unfold tlF kF; rw [if_pos h]; simp
theorem tl_some {p : List UInt8} (h : chkF p 0 ≠ -1) : tlF p ≠ [] ∧ (dec (tlF p)).2 = 0 ∧ chkF p 0 = kF p := by
  rcases chk_split p.length p 0 (Nat.le_refl _) (Int.le_refl _) with h' | ⟨k, h1, h2, _, h4⟩
  · exact absurd h' h
  · have hk : kF p = k := by unfold kF; rw [if_neg h, h2]; omega
    refine ⟨fun h => ?_, by unfold tlF; rw [hk]; exact h4, by rw [h2, hk]; omega⟩
    have := congrArg List.length h
    rw [tl_len, hk] at this
    simp at this; omega
theorem chk_cut (p b : List UInt8) : chkF (p ++ b) 0 = if chkF (tlF p ++ b) 0 = -1 then -1 else chkF (tlF p ++ b) 0 + kF p := by
  have e : p ++ b = p.take (kF p) ++ (tlF p ++ b) := by unfold tlF; rw [← List.append_assoc, List.take_append_drop]
  have hl : (p.take (kF p)).length = kF p := by rw [List.length_take]; have := k_le p; omega
  conv => lhs; rw [e]
  rw [chk_app _ _ _ 0 (Nat.le_refl _) (Int.le_refl _) (k_front p), hl, chk_shift _ (tlF p ++ b) 0 (kF p) (Nat.le_refl _) (Int.le_refl _) (by omega)]
theorem k_cut (p b : List UInt8) : kF (p ++ b) = kF p + kF (tlF p ++ b) := by
  have h := chk_cut p b
  by_cases h1 : chkF (tlF p ++ b) 0 = -1
  · rw [if_pos h1] at h
    have e1 : kF (p ++ b) = (p ++ b).length := by unfold kF; rw [if_pos h]
    have e2 : kF (tlF p ++ b) = (tlF p ++ b).length := by unfold kF; rw [if_pos h1]
    rw [e1, e2]
    have := tl_len p
    have := k_le p
    simp; omega
  · rw [if_neg h1] at h
    obtain ⟨_, _, e2⟩ := tl_some h1
    have h0 : chkF (p ++ b) 0 ≠ -1 := by omega
    obtain ⟨_, _, e1⟩ := tl_some h0
    omega
theorem tl_cut (p b : List UInt8) : tlF (p ++ b) = tlF (tlF p ++ b) := by
  have e : p ++ b = p.take (kF p) ++ (tlF p ++ b) := by unfold tlF; rw [← List.append_assoc, List.take_append_drop]
  have hl : (p.take (kF p)).length = kF p := by rw [List.length_take]; have := k_le p; omega
  have h1 : tlF (p ++ b) = (p ++ b).drop (kF p + kF (tlF p ++ b)) := by unfold tlF; rw [k_cut]; rfl
  rw [h1, e, ← List.drop_drop, List.drop_left' hl]
  rfl
/-- The text is no UTF-8, and none that begins with it is. -/
def bdF (p : List UInt8) : Bool := !(tlF p).isEmpty && !(decide ((tlF p).length < 4) && bgB (tlF p))
theorem bd_chk {p : List UInt8} (h : bdF p = true) : chkF p 0 = kF p ∧ 0 ≤ chkF p 0 := by
  by_cases h1 : chkF p 0 = -1
  · unfold bdF at h; rw [tl_nil h1] at h; exact absurd h (by decide)
  · have := (tl_some h1).2.2
    exact ⟨this, by omega⟩
theorem bd_never {p : List UInt8} (h : bdF p = true) (t : List UInt8) : (dec (tlF p ++ t)).2 = 0 ∧ tlF p ≠ [] := by
  have h1 : chkF p 0 ≠ -1 := fun h1 => by unfold bdF at h; rw [tl_nil h1] at h; exact absurd h (by decide)
  obtain ⟨a, b, _⟩ := tl_some h1
  refine ⟨bg_never a b ?_ t, a⟩
  unfold bdF at h
  simp at h
  by_cases h4 : (tlF p).length < 4
  · exact .inl (by have := h.2; rcases this with h5 | h5; · omega
                   · exact h5)
  · exact .inr (by omega)
theorem bd_stays {p : List UInt8} (h : bdF p = true) (b : List UInt8) : kF (p ++ b) = kF p ∧ chkF (p ++ b) 0 = chkF p 0 ∧ bdF (p ++ b) = true := by
  obtain ⟨h0, hne⟩ := bd_never h b
  have hc : chkF (tlF p ++ b) 0 = 0 := by rw [chkF_step 0 (by simp [hne]), if_pos h0]
  have h1 := chk_cut p b
  rw [if_neg (by omega), hc] at h1
  have h2 := (bd_chk h).1
  have hk0 : kF (tlF p ++ b) = 0 := by unfold kF; rw [if_neg (by omega), hc]; rfl
  have hk := k_cut p b
  have ht : tlF (p ++ b) = tlF p ++ b := by rw [tl_cut]; unfold tlF; rw [show kF (List.drop (kF p) p ++ b) = 0 from hk0]; rfl
  refine ⟨by omega, by omega, ?_⟩
  unfold bdF
  rw [ht]
  have hq : (decide ((tlF p ++ b).length < 4) && bgB (tlF p ++ b)) = false := by
    by_cases hb : bgB (tlF p ++ b) = true
    · exfalso
      have hx := hb
      cases hl : tlF p ++ b with
      | nil => exact absurd hl (by simp [hne])
      | cons c t =>
        rw [hl] at hb
        unfold bgB at hb
        simp only [Bool.and_eq_true, decide_eq_true_eq] at hb
        have hf := hb.2
        unfold fillB at hf
        rw [← hl] at hf
        simp only [Bool.or_eq_true, decide_eq_true_eq, List.append_assoc] at hf
        rcases hf with hf | hf
        · rw [(bd_never h _).1] at hf; omega
        · rw [(bd_never h _).1] at hf; omega
    · simp [hb]
  rw [hq]
  simp [hne]
/-- What a scan keeps of a text. -/
def rsF (p : List UInt8) : List UInt8 := if bdF p = true then [] else tlF p
theorem bd_cut {p : List UInt8} (b : List UInt8) : bdF (p ++ b) = bdF (tlF p ++ b) := by
  have h : tlF (p ++ b) = tlF (tlF p ++ b) := tl_cut p b
  unfold bdF
  rw [h]
end Go.Tk
