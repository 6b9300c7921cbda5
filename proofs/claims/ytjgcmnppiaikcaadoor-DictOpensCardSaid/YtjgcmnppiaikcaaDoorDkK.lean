/- How far a test holds in a dictionary of any bytes. -/
import Derived.Test.YtjgcmnppiaikcaaDoorDkJ
import Derived.Sort.CutIn
set_option linter.unusedVariables false
set_option linter.unusedSimpArgs false
namespace Go.Tk
open Go Go.RowKit
section
variable {L : List (Nat × List UInt8)} {base : Nat} {tst : List UInt8 → Bool}
/-- The number behind the last one that was gone through. -/
def lastN (base : Nat) (L : List (Nat × List UInt8)) (pre : List (Fin L.length)) : Nat := match pre.getLast? with
  | none => base
  | some x => L[x.val].1 + 1
theorem lastN_snoc (pre : List (Fin L.length)) (x : Fin L.length) : lastN base L (pre ++ [x]) = L[x.val].1 + 1 := by
  unfold lastN
  rw [List.getLast?_append]
  rfl
theorem last_pre (hat : ∀ j (h : j < L.length), L[j].1 = base + j) {pre : List (Fin L.length)} (hp : pre <+: List.finRange L.length) : lastN base L pre = base + pre.length := by
  unfold lastN
  cases h : pre.getLast? with
  | none =>
    rw [List.getLast?_eq_none_iff] at h
    subst h; rfl
  | some x =>
    simp only
    rw [List.getLast?_eq_getElem?] at h
    have hlen : pre.length - 1 < pre.length := by
      rcases Nat.lt_or_ge (pre.length - 1) pre.length with h1 | h1
      · exact h1
      · rw [List.getElem?_eq_none h1] at h; cases h
    have hx : x.val = pre.length - 1 := by
      have e := hp.getElem hlen
      rw [List.getElem?_eq_getElem hlen] at h
      have hx2 : pre[pre.length - 1] = x := by simpa using h
      rw [hx2] at e
      rw [e]; simp
    have := hat x.val x.isLt
    omega
theorem tw_all (h : ∀ y : Fin L.length, tst L[y.val].2 = true) : (L.takeWhile fun x => tst x.2).length = L.length := by
  have key : ∀ M : List (Nat × List UInt8), (∀ y ∈ M, tst y.2 = true) → (M.takeWhile fun x => tst x.2) = M := by
    intro M
    induction M with
    | nil => intro _; rfl
    | cons y M ih => intro hm; rw [List.takeWhile_cons, hm y (by simp), if_pos rfl, ih (fun z hz => hm z (by simp [hz]))]
  rw [key L]
  intro y hy
  obtain ⟨k, hk, rfl⟩ := List.mem_iff_getElem.1 hy
  exact h ⟨k, hk⟩
theorem tw_stop : ∀ (L : List (Nat × List UInt8)) (k : Nat) (hk : k < L.length), (∀ j (h : j < L.length), j < k → tst L[j].2 = true) → tst L[k].2 = false → (L.takeWhile fun x => tst x.2).length = k
  | [], k, hk, _, _ => by simp at hk
  | x :: L, 0, hk, h, h2 => by
    have : tst x.2 = false := h2
    simp [List.takeWhile_cons, this]
  | x :: L, k + 1, hk, h, h2 => by
    have h0 : tst x.2 = true := h 0 (by simp) (by omega)
    have ih := tw_stop L k (by simpa using hk) (fun j hj hjk => by have := h (j + 1) (by simpa using hj) (by omega); simpa using this) (by simpa using h2)
    simp [List.takeWhile_cons, h0, ih]
/-- What stood when the loop was left. -/
theorem tw_left {pre : List (Fin L.length)} (hp : pre <+: List.finRange L.length) (h1 : ∀ y ∈ pre.dropLast, tst L[y.val].2 = true) {x : Fin L.length} (hx : pre.getLast? = some x) (h2 : tst L[x.val].2 = false) : (L.takeWhile fun x => tst x.2).length = pre.dropLast.length := by
  rw [List.getLast?_eq_getElem?] at hx
  have hlen : pre.length - 1 < pre.length := by
    rcases Nat.lt_or_ge (pre.length - 1) pre.length with h1 | h1
    · exact h1
    · rw [List.getElem?_eq_none h1] at hx; cases hx
  have hpl : pre.length ≤ L.length := by have := hp.length_le; simpa using this
  have hat : ∀ j (h : j < pre.length), (pre[j]).val = j := by
    intro j hj
    have e := hp.getElem hj
    rw [e]; simp
  have hxv : x.val = pre.length - 1 := by
    rw [List.getElem?_eq_getElem hlen] at hx
    have hx2 : pre[pre.length - 1] = x := by simpa using hx
    rw [← hx2]; exact hat _ hlen
  rw [List.length_dropLast]
  have h3 : tst (L[pre.length - 1]'(by omega)).2 = false := by
    have : L[x.val] = L[pre.length - 1]'(by omega) := by simp only [hxv]
    rw [← this]; exact h2
  refine tw_stop L (pre.length - 1) (by omega) (fun j hj hjk => ?_) h3
  have hm : pre[j]'(by omega) ∈ pre.dropLast := by
    rw [List.mem_iff_getElem]
    exact ⟨j, by rw [List.length_dropLast]; exact hjk, by rw [List.getElem_dropLast]⟩
  have := h1 _ hm
  have e : L[(pre[j]'(by omega)).val] = L[j] := by simp only [hat j (by omega)]
  rw [e] at this
  exact this
end
theorem keepsFrom_below {B : Nat} {X Y : World} (h : Below X.heap.size X Y) : KeepsFrom B X Y := ⟨h.size, fun k o _ hk _ => (h.block k (Array.getElem?_eq_some_iff.1 hk).1).trans hk⟩
end Go.Tk
namespace Go.Proofs.YtjgcmnppiaikcaaDoor
open Go.RowKit Go.Shelf Go.Tk
attribute [local go_sem] Oper.semAt_some
/-- How many entries there are for which a test holds. -/
def aheadF (pz : List Int) (wd : Nat) (eb : List UInt8) (n : Nat) (tst : List UInt8 → Bool) : Nat :=
  let k := bsF (tstB pz wd eb tst) ((n + 15) / 16) 0 ((n + 15) / 16)
  if k = 0 then 0 else 16 * (k - 1) + ((blkN pz wd eb n (k - 1)).takeWhile fun x => tst x.2).length
end Go.Proofs.YtjgcmnppiaikcaaDoor
