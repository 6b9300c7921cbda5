/- DlP, laid as one. -/
import Derived.Test.YtjgcmnppiaikcaaDlK
import Derived.Test.YtjgcmnppiaikcaaDlF
import Derived.Test.YtjgcmnppiaikcaaDkV
set_option linter.unusedVariables false
set_option linter.unusedSimpArgs false
/- A dictionary of any bytes: how long its texts are, how its numbers rise. Plain. -/
namespace Go.Proofs.Ytjgcmnppiaikcaa
open Go Go.RowKit Go.Tk
theorem ent_grow {eb : List UInt8} {p : Int} {first : Bool} {last s : List UInt8} {nx : Int} (h : entP eb p first last = (s, nx, 0)) : (s.length : Int) ≤ last.length + (nx - p) := by
  unfold entP at h
  split at h
  · cases h
  · rename_i hp
    simp only at h
    have hr1 : (0 ≤ (if first = true then ((0, 0, 0) : Int × Nat × Int) else upS (nums (eb.drop p.toNat)) 0 0 mxU).1) ∧ (if first = true then ((0, 0, 0) : Int × Nat × Int) else upS (nums (eb.drop p.toNat)) 0 0 mxU).2.1 ≤ (nums (eb.drop p.toNat)).length := by
      split
      · simp
      · have := ups_range (nums (eb.drop p.toNat)) 0 0 (Nat.zero_le _); exact ⟨this.1.1, this.2.2⟩
    generalize (if first = true then ((0, 0, 0) : Int × Nat × Int) else upS (nums (eb.drop p.toNat)) 0 0 mxU) = t1 at h hr1
    have hr2 := ups_range (nums (eb.drop p.toNat)) t1.2.1 0 hr1.2
    generalize upS (nums (eb.drop p.toNat)) t1.2.1 0 mxU = t2 at h hr2
    split at h
    · simp only [Prod.mk.injEq] at h; exact absurd h.2.2 (by assumption)
    split at h
    · simp only [Prod.mk.injEq] at h; exact absurd h.2.2 (by assumption)
    split at h
    · simp at h
    split at h
    · simp at h
    split at h
    · simp at h
    · simp only [Prod.mk.injEq, and_true] at h
      obtain ⟨rfl, rfl⟩ := h
      simp only [List.length_append, List.length_take, List.length_drop]
      omega
theorem bkF_txt (eb : List UInt8) (n : Nat) (p0 : Int) : ∀ (f i : Nat) (p : Int) (last : List UInt8), 0 ≤ p0 → p0 ≤ p → (last.length : Int) ≤ p - p0 → ∀ x ∈ bkF eb n f i p last, x.2.length ≤ eb.length
  | 0, _, _, _, _, _, _, x, hx => by simp [bkF] at hx
  | f + 1, i, p, last, h0, hp, hl, x, hx => by
    simp only [bkF] at hx
    split at hx
    · simp at hx
    split at hx
    · simp at hx
    rename_i h1 h2
    have he : entP eb p (decide (i % 16 = 0)) last = ((entP eb p (decide (i % 16 = 0)) last).1, (entP eb p (decide (i % 16 = 0)) last).2.1, 0) := by
      have := Classical.not_not.1 h2
      rw [← this]
    have hg := ent_grow he
    have ho := ent_ok he
    rcases List.mem_cons.1 hx with rfl | hx
    · simp only; omega
    · exact bkF_txt eb n p0 f (i + 1) _ _ h0 (by omega) (by omega) x hx
theorem blkN_txt (pz : List Int) (wd : Nat) (eb : List UInt8) (n q : Nat) : ∀ x ∈ blkN pz wd eb n q, x.2.length ≤ eb.length :=
  bkF_txt eb n (numT pz wd q wd : Nat) 16 (16 * q) (numT pz wd q wd : Nat) [] (by omega) (by omega) (by simp)
/-- What Get says of any dictionary. -/
theorem get_wild (pz : List Int) (wd : Nat) (eb : List UInt8) (n : Nat) (i : Int) : (getF pz wd eb n i).1.length ≤ eb.length ∧ ((getF pz wd eb n i).2 = true → 0 ≤ i ∧ i < n) ∧ ((getF pz wd eb n i).2 = false → (getF pz wd eb n i).1 = []) := by
  unfold getF
  split
  · simp
  · rename_i h
    split
    · rename_i x hx
      exact ⟨blkN_txt pz wd eb n _ x (List.mem_of_find?_eq_some hx), fun _ => by omega, fun h => by cases h⟩
    · simp
/-- Numbers that rise from one on, below n. -/
def RiseF (n : Nat) : Nat → List (Nat × List UInt8) → Prop
  | _, [] => True
  | lo, x :: L => lo ≤ x.1 ∧ x.1 < n ∧ RiseF n (x.1 + 1) L
theorem RiseF.app {n : Nat} : ∀ {lo hi : Nat} {A B : List (Nat × List UInt8)}, RiseF n lo A → (∀ x ∈ A, x.1 < hi) → lo ≤ hi → RiseF n hi B → RiseF n lo (A ++ B)
  | lo, hi, [], B, _, _, h, hB => by
    cases B with
    | nil => trivial
    | cons y B => exact ⟨Nat.le_trans h hB.1, hB.2⟩
  | lo, hi, x :: A, B, h1, h2, h, hB => ⟨h1.1, h1.2.1, RiseF.app h1.2.2 (fun y hy => h2 y (by simp [hy])) (h2 x (by simp)) hB⟩
theorem RiseF.at {n : Nat} : ∀ {lo : Nat} {L : List (Nat × List UInt8)}, RiseF n lo L → ∀ j (h : j < L.length), lo ≤ L[j].1 ∧ L[j].1 < n ∧ (∀ h2 : j + 1 < L.length, L[j].1 < L[j + 1].1)
  | lo, x :: L, h, 0, hj => ⟨h.1, h.2.1, fun h2 => by
      cases L with
      | nil => simp at h2
      | cons y L => exact h.2.2.1⟩
  | lo, x :: L, h, j + 1, hj => by
    have := RiseF.at h.2.2 j (by simpa using hj)
    simp only [List.getElem_cons_succ]
    exact ⟨by have := this.1; have := h.1; omega, this.2.1, fun h2 => this.2.2 (by simpa using h2)⟩
theorem bkF_rise (eb : List UInt8) (n fr : Nat) : ∀ (f i : Nat) (p : Int) (last : List UInt8) (lo : Nat), lo ≤ max fr i → RiseF n lo ((bkF eb n f i p last).filter fun x => decide (fr ≤ x.1))
  | 0, _, _, _, _, _ => by simp [bkF, RiseF]
  | f + 1, i, p, last, lo, hlo => by
    simp only [bkF]
    split
    · simp [RiseF]
    split
    · simp [RiseF]
    rename_i h1 h2
    by_cases h : fr ≤ i
    · rw [List.filter_cons_of_pos (by simpa using h)]
      exact ⟨by simp only; omega, by simp only; omega, bkF_rise eb n fr f (i + 1) _ _ (i + 1) (by omega)⟩
    · rw [List.filter_cons_of_neg (by simpa using h)]
      exact bkF_rise eb n fr f (i + 1) _ _ lo (by omega)
theorem eachG_rise (pz : List Int) (wd : Nat) (eb : List UInt8) (n fr : Nat) : ∀ (f k lo : Nat), lo ≤ max fr (16 * k) → RiseF n lo (eachG pz wd eb n fr f k)
  | 0, _, _, _ => by simp [eachG, RiseF]
  | f + 1, k, lo, hlo => by
    simp only [eachG]
    split
    · simp [RiseF]
    have hA : RiseF n lo ((blkN pz wd eb n k).filter fun x => decide (fr ≤ x.1)) := bkF_rise eb n fr 16 (16 * k) _ [] lo hlo
    split
    · rw [List.append_nil]; exact hA
    · rename_i h1 h2
      have hlt : ∀ x ∈ (blkN pz wd eb n k).filter fun x => decide (fr ≤ x.1), x.1 < max lo (16 * (k + 1)) := fun x hx => by
        have hx := (List.mem_filter.1 hx).1
        obtain ⟨j, hj, rfl⟩ := List.mem_iff_getElem.1 hx
        have h3 := (bkF_at eb n 16 (16 * k) _ [] j hj).1
        have h4 := bkF_len eb n 16 (16 * k) (numT pz wd k wd : Nat) []
        have hj2 : j < (bkF eb n 16 (16 * k) (numT pz wd k wd : Nat) []).length := hj
        have h5 : (blkN pz wd eb n k)[j].1 = 16 * k + j := h3
        omega
      exact RiseF.app hA hlt (by omega) (eachG_rise pz wd eb n fr f (k + 1) _ (by omega))
theorem eachG_txt (pz : List Int) (wd : Nat) (eb : List UInt8) (n fr : Nat) : ∀ (f k : Nat), ∀ x ∈ eachG pz wd eb n fr f k, x.2.length ≤ eb.length
  | 0, _, x, hx => by simp [eachG] at hx
  | f + 1, k, x, hx => by
    simp only [eachG] at hx
    split at hx
    · simp at hx
    rcases List.mem_append.1 hx with h | h
    · exact blkN_txt pz wd eb n k x (List.mem_filter.1 h).1
    · split at h
      · simp at h
      · exact eachG_txt pz wd eb n fr f (k + 1) x h
/-- What Each goes through, of any dictionary. -/
theorem each_wild (pz : List Int) (wd : Nat) (eb : List UInt8) (n : Nat) (fr : Int) : RiseF n fr.toNat (eachF pz wd eb n fr) ∧ ∀ x ∈ eachF pz wd eb n fr, x.2.length ≤ eb.length :=
  ⟨eachG_rise pz wd eb n fr.toNat _ _ _ (by omega), eachG_txt pz wd eb n fr.toNat _ _⟩
theorem range_wild (pz : List Int) (wd : Nat) (eb : List UInt8) (n : Nat) (s : List UInt8) : (rangeF pz wd eb n s).1 ≤ (rangeF pz wd eb n s).2 ∧ (rangeF pz wd eb n s).2 ≤ n ∧ (findF pz wd eb n s).1 ≤ n := by
  have h1 := ahead_le pz wd eb n (fun t => ltB t s)
  have h2 := ahead_le pz wd eb n (fun t => ltB t s || preB s t)
  unfold rangeF findF
  simp only
  omega
theorem hdE_len (b : List UInt8) : (hdE b).length ≤ b.length := by
  unfold hdE
  rw [List.length_take, List.length_drop]; omega
end Go.Proofs.Ytjgcmnppiaikcaa
