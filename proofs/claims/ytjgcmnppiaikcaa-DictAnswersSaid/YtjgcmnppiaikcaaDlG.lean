/- What Each goes through, of a dictionary that Build made. Plain. -/
import Derived.Test.YtjgcmnppiaikcaaDkQ
import Derived.Test.YtjgcmnppiaikcaaDlK
set_option linter.unusedVariables false
set_option linter.unusedSimpArgs false
namespace Go.Tk
theorem filter_range' (fr : Nat) : ∀ (m a : Nat), (List.range' a m).filter (fun x => decide (fr ≤ x)) = List.range' (max fr a) (a + m - max fr a)
  | 0, a => by
    have : a + 0 - max fr a = 0 := by omega
    rw [this]; rfl
  | m + 1, a => by
    rw [List.range'_succ]
    by_cases h : fr ≤ a
    · rw [List.filter_cons_of_pos (by simpa using h), filter_range' fr m (a + 1)]
      have e1 : max fr a = a := by omega
      have e2 : max fr (a + 1) = a + 1 := by omega
      rw [e1, e2, show a + (m + 1) - a = m + 1 by omega, show a + 1 + m - (a + 1) = m by omega, List.range'_succ]
    · rw [List.filter_cons_of_neg (by simpa using h), filter_range' fr m (a + 1)]
      have e1 : max fr a = fr := by omega
      have e2 : max fr (a + 1) = fr := by omega
      rw [e1, e2, show a + (m + 1) = a + 1 + m by omega]
end Go.Tk
namespace Go.Proofs.Ytjgcmnppiaikcaa
open Go Go.RowKit Go.Tk
def entL (L : List (List UInt8)) (x : Nat) : Nat × List UInt8 := (x, L.getD x [])
theorem blkN_range {L : List (List UInt8)} (hG : Good L) {eb : List UInt8} (he : nums eb = areaN L L.length) (q : Nat) (hq : 16 * q < L.length) :
    blkN (packD L) (widthD L).toNat eb L.length q = (List.range' (16 * q) (min 16 (L.length - 16 * q))).map (entL L) := by
  rw [blkN_built hG he q hq, List.range'_eq_map_range, List.map_map]
  rfl
theorem eachG_built {L : List (List UInt8)} (hG : Good L) {eb : List UInt8} (he : nums eb = areaN L L.length) (fr : Nat) : ∀ (f k : Nat), fr / 16 ≤ k → (L.length + 15) / 16 ≤ k + f →
    eachG (packD L) (widthD L).toNat eb L.length fr f k = (List.range' (max fr (16 * k)) (L.length - max fr (16 * k))).map (entL L)
  | 0, k, h1, h2 => by
    have : L.length - max fr (16 * k) = 0 := by omega
    rw [this]; rfl
  | f + 1, k, h1, h2 => by
    simp only [eachG]
    by_cases h : (L.length + 15) / 16 ≤ k
    · rw [if_pos h]
      have : L.length - max fr (16 * k) = 0 := by omega
      rw [this]; rfl
    · rw [if_neg h, blkN_range hG he k (by omega)]
      have hl : ((List.range' (16 * k) (min 16 (L.length - 16 * k))).map (entL L)).length = min 16 (L.length - 16 * k) := by simp
      rw [hl, if_neg (by omega), eachG_built hG he fr f (k + 1) (by omega) (by omega), List.filter_map]
      have hf : (fun x : Nat => decide (fr ≤ (entL L x).1)) = fun x => decide (fr ≤ x) := rfl
      have hc : ((fun x : Nat × List UInt8 => decide (fr ≤ x.1)) ∘ entL L) = fun x => decide (fr ≤ x) := rfl
      rw [hc, filter_range', ← List.map_append]
      congr 1
      have hfr : fr < 16 * (k + 1) := by omega
      have e2 : max fr (16 * (k + 1)) = 16 * (k + 1) := by omega
      rw [e2]
      by_cases hn : L.length ≤ 16 * (k + 1)
      · have e3 : L.length - 16 * (k + 1) = 0 := by omega
        rw [e3, List.range'_zero, List.append_nil]
        congr 1
        omega
      · have e4 : 16 * k + min 16 (L.length - 16 * k) - max fr (16 * k) = 16 * (k + 1) - max fr (16 * k) := by omega
        have e5 : 16 * (k + 1) = max fr (16 * k) + (16 * (k + 1) - max fr (16 * k)) := by omega
        rw [e4]
        conv => lhs; rhs; rw [e5]
        rw [List.range'_append_1]
        congr 1
        omega
theorem each_built {L : List (List UInt8)} (hG : Good L) {eb : List UInt8} (he : nums eb = areaN L L.length) (fr : Int) :
    eachF (packD L) (widthD L).toNat eb L.length fr = (List.range' fr.toNat (L.length - fr.toNat)).map (entL L) := by
  unfold eachF
  rw [eachG_built hG he fr.toNat _ _ (Nat.le_refl _) (by omega)]
  have : max fr.toNat (16 * (fr.toNat / 16)) = fr.toNat := by omega
  rw [this]
end Go.Proofs.Ytjgcmnppiaikcaa
