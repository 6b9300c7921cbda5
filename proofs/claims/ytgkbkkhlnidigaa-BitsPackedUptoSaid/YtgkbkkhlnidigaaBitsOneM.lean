/- BitsOne: what is read is what is written: plain lemmas; a buffer beside a cursor. -/
import Derived.Test.YtgkbkkhlnidigaaBitsInv
import Derived.Test.YtgkbkkhlnidigaaBitsRd5
import Derived.Test.YtgkbkkhlnidigaaBitsWrites
set_option linter.unusedVariables false
set_option linter.unusedSimpArgs false
namespace Go.Proofs.Ytgkbkkhlnidigaa
open Go.RowKit Go.Tk
theorem take_on (z : List Int) (i j : Nat) (h : i ≤ j) : z.take i ++ (z.drop i).take (j - i) = z.take j := by
  have := List.take_append_drop i (z.take j)
  rw [List.take_take, Nat.min_eq_left h, List.drop_take] at this
  exact this
theorem putF_on (z : List Int) (i j : Nat) (h : i ≤ j) (hj : j ≤ z.length) (ns : List Int) (hn : (z.drop i).take (j - i) = ns) : putF z.length (z.take i, false) ns = (z.take j, false) := by
  have hl : ns.length = j - i := by rw [← hn]; simp; omega
  unfold putF
  rw [if_neg (by simp), if_neg (by simp [hl]; omega)]
  simp only
  rw [← hn, take_on z i j h]
theorem upS_one (z : List Int) (hz : ∀ x ∈ z, 0 ≤ x ∧ x < 256) (i : Nat) (e m : Int) (hi : i ≤ z.length) :
    (upS z i e m).2.1 ≤ z.length ∧ ((¬ (upS z i e m).2.2 = 0 ∧ (upS z i e m).2.1 = i) ∨ ((upS z i e m).2.2 = 0 ∧ 0 ≤ (upS z i e m).1 ∧ (upS z i e m).1 < 18446744073709551616 ∧ i ≤ (upS z i e m).2.1 ∧ (z.drop i).take ((upS z i e m).2.1 - i) = vz (upS z i e m).1)) := by
  unfold upS
  by_cases h0 : e = 0
  · rw [if_neg (by simp [h0])]
    by_cases h1 : (pk (z.drop i)).2.2 = 0
    · rw [if_neg (by simp [h1])]
      by_cases h2 : m < (pk (z.drop i)).1
      · rw [if_pos h2]; exact ⟨hi, .inl ⟨by simp, rfl⟩⟩
      · rw [if_neg h2]
        obtain ⟨j, u, hk, hj, hv, hu, hb, ht, _⟩ := pk_vz (z.drop i) 0 0 (pk (z.drop i)).1 (pk (z.drop i)).2.1 (fun x hx => hz x (List.mem_of_mem_drop hx)) (by omega) (by omega) (by decide) (Prod.ext rfl (Prod.ext rfl h1))
        have hl : j ≤ z.length - i := by simpa using hj
        have ev : (pk (z.drop i)).1 = u := by rw [hv]; simp
        rw [ev] at hb
        rw [hk, ev]
        simp only [Int.toNat_natCast, Nat.zero_add]
        exact ⟨by omega, .inr ⟨trivial, hu, hb, by omega, by rw [Nat.add_sub_cancel_left]; exact ht⟩⟩
    · rw [if_pos h1]; exact ⟨hi, .inl ⟨h1, rfl⟩⟩
  · rw [if_pos h0]; exact ⟨hi, .inl ⟨h0, rfl⟩⟩
theorem tk_two (z : List Int) (i : Nat) (e n : Int) (hi : i ≤ z.length) :
    (tk z i e n).2.1 ≤ z.length ∧ ((¬ (tk z i e n).2.2 = 0 ∧ (tk z i e n).2.1 = i ∧ (tk z i e n).1 = []) ∨ ((tk z i e n).2.2 = 0 ∧ 0 ≤ n ∧ (tk z i e n).1.length = n.toNat ∧ i ≤ (tk z i e n).2.1 ∧ (z.drop i).take ((tk z i e n).2.1 - i) = (tk z i e n).1)) := by
  unfold tk
  by_cases h0 : e = 0
  · rw [if_neg (by simp [h0])]
    by_cases h1 : n < 0 ∨ (z.length : Int) - i < n
    · rw [if_pos h1]; exact ⟨hi, .inl ⟨by simp, rfl, rfl⟩⟩
    · rw [if_neg h1]
      refine ⟨by simp only; omega, .inr ⟨rfl, by omega, by simp; omega, by simp, by simp⟩⟩
  · rw [if_pos h0]; exact ⟨hi, .inl ⟨h0, rfl, rfl⟩⟩
/-- A buffer beside a cursor. -/
structure OneI (W w : World) (p c : Nat) (most : Int) (st : List Int × Bool) (v : Value) (a : Option Addr) (cap : Nat) (z : List Int) (i : Nat) (e : Int) : Prop where
  B : BufB w W.heap.size p most st v
  C : CurC w c a cap z i e
  ne : c ≠ p
  nv : v.ownBlock ≠ some c
  na : ∀ x, a = some x → x.block < w.heap.size ∧ x.block ≠ p ∧ v.ownBlock ≠ some x.block
  cb : W.heap.size ≤ c
  bel : Below W.heap.size W w
section
variable {W w w' : World} {p c : Nat} {most : Int} {st st' : List Int × Bool} {v : Value} {a : Option Addr} {cap : Nat} {z : List Int} {i i' : Nat} {e e' : Int}
theorem OneI.put (h : OneI W w p c most st v a cap z i e) {r : Ending} (hp : PutBufB w W.heap.size p most st' v r w') : ∃ v', r = .returned (.tuple #[]) ∧ OneI W w' p c most st' v' a cap z i e := by
  obtain ⟨v', hr, hB, hK, hS⟩ := hp
  have hc := (Array.getElem?_eq_some_iff.1 h.C.blk).1
  have hs := hK.size
  refine ⟨v', hr, hB, h.C.kept hK ?_ ?_, h.ne, ?_, fun x hx => ⟨?_, ?_, ?_⟩, h.cb, h.bel.trans (hK.below h.bel.size (fun k hk => (h.B.lt k hk).1))⟩
  · rintro (hf | hf)
    · exact h.ne hf
    · exact h.nv hf
  · rintro x hx (hf | hf)
    · exact (h.na x hx).2.1 hf
    · exact (h.na x hx).2.2 hf
  · exact hS.ne hc h.nv
  · have := (h.na x hx).1; omega
  · exact (h.na x hx).2.1
  · exact hS.ne (h.na x hx).1 (h.na x hx).2.2
theorem OneI.cur (h : OneI W w p c most st v a cap z i e) (hC : CurC w' c a cap z i' e') (hK : Kept (fun k => k = c) w w') : OneI W w' p c most st v a cap z i' e' := by
  have hs := hK.size
  refine ⟨h.B.kept hK ?_, hC, h.ne, h.nv, fun x hx => ⟨?_, (h.na x hx).2⟩, h.cb, h.bel.trans (hK.below h.bel.size (fun k hk => by have := h.cb; omega))⟩
  · rintro k (hf | hf) rfl
    · exact h.ne hf
    · exact h.nv hf
  · have := (h.na x hx).1; omega
theorem OneI.keep (h : OneI W w p c most st v a cap z i e) (hK : Kept (fun _ => False) w w') : OneI W w' p c most st v a cap z i e := by
  have hs := hK.size
  exact ⟨h.B.kept hK (fun _ _ => id), h.C.kept hK id (fun _ _ => id), h.ne, h.nv, fun x hx => ⟨by have := (h.na x hx).1; omega, (h.na x hx).2⟩, h.cb, h.bel.trans (hK.below h.bel.size (fun _ h => h.elim))⟩
theorem OneI.drewN (h : OneI W w p c most st v a cap z i e) (n : Nat) : OneI W (w.drewN n) p c most st v a cap z i e := h.keep ((Kept.refl _ w).drewN n)
end
end Go.Proofs.Ytgkbkkhlnidigaa
