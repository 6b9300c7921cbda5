/- tessera/tesseralaw01.copied: a copy of bytes, in new memory. -/
import Derived.Test.YtgkbkkhlnidigaaTypes
import Derived.Test.YtgkbkkhlnidigaaOwn
set_option linter.unusedVariables false
set_option linter.unusedSimpArgs false
namespace Go.Proofs.Ytgkbkkhlnidigaa
open Go.RowKit Go.Tk
theorem copied_calls (w : World) (a : Option Addr) (n c : Nat) (z : List Int) (h : SlI .u8 w a n c z) (hn : n ≤ 140737488351232) :
    Calls Try.prog 11 #[.slice a n c] w fun e w' => e = .returned (.slice (some ⟨w.heap.size, 0, none⟩) n n) ∧ Fresh .u8 5 w w' w.heap.size z := by
  obtain ⟨i0, hi, hz0, hz1, hz2⟩ := info_parts Try.infoU8
  obtain ⟨Z, hZ⟩ : ∃ Z, Z = List.replicate n (Value.int .u8 0) := ⟨_, rfl⟩
  obtain ⟨X, hX⟩ : ∃ X, X = z.map (Value.int .u8) := ⟨_, rfl⟩
  have lZ : Z.length = n := by rw [hZ]; simp
  have lX : X.length = n := by rw [hX]; simp [h.len]
  have hsp : splice Z 0 X = X := by simp [splice, lZ, lX]
  have hcells : 0 < X.length → ∃ ad, a = some ad ∧ ∀ j v, X[j]? = some v → w.cell? (ad.add j) = some v := by
    intro hp
    obtain ⟨b, o, rfl, _⟩ := h.cell 0 (by omega)
    refine ⟨_, rfl, fun j v hj => ?_⟩
    rw [hX] at hj
    simp only [List.getElem?_map, Option.map_eq_some_iff] at hj
    obtain ⟨x, hx, rfl⟩ := hj
    obtain ⟨hl, hx'⟩ := List.getElem?_eq_some_iff.1 hx
    obtain ⟨b', o', e, hc⟩ := h.cell j (by have := h.len; omega)
    obtain ⟨rfl, rfl⟩ : b = b' ∧ o = o' := by simpa using e
    rw [Addr.add_lit, hc]
    simp [hl, hx']
  have HZ := Lib.hid hZ
  have HX := Lib.hid hX
  have LZ := Lib.hid lZ
  have LX := Lib.hid lX
  have HS := Lib.hid hsp
  have HC := Lib.hid hcells
  have hblk : ∀ ad, a = some ad → 0 < n → ad.block < w.heap.size := by
    intro ad e hp
    obtain ⟨b, o, e', hc⟩ := h.cell 0 hp
    have := block_lt_of_cell hc
    rw [e] at e'
    obtain rfl := Option.some.inj e'
    exact this
  have HB := Lib.hid hblk
  clear hZ hX lZ lX hsp hcells hblk h
  go_enter Try.func11, Try.ntmps11
  go_wp2_with (first
    | (at_make; refine wpList_mk rfl _ _ _ rfl 5 i0 (.int .u8 0) 1 Try.underlying22 hi hz0 hz1 hz2 rfl _ _ _ _ n rfl rfl rfl rfl (by omega) (by omega) ?_; intro w1 hw1 hb1; rw [← HZ.out] at hw1; have HW := Lib.hid hw1; have HB1 := Lib.hid hb1; clear hw1 hb1)
    | (with_reducible refine wpList_copy_splice rfl (.tmp 7) (.tmp 8) _ _ rfl 5 Try.underlying22 (by rw [hi]; simp [hz1]) _ _ _ _ _ _ rfl rfl w.heap.size 0 Z 5 HW.out X ?c1 ?c2 ?c3 ?c4 w.heap.size w ?c5 (Nat.le_refl _) ?_))
  case c1 => rw [LX.out]; simp
  case c2 =>
    intro hp
    obtain ⟨ad, rfl, hc⟩ := HC.out hp
    have hk : ∀ j v, X[j]? = some v → w1.cell? (ad.add j) = some v := fun j v hj => HB1.out.cell (hc j v hj) (by simp)
    first | exact ⟨rfl, ad, rfl, hk⟩ | exact ⟨ad, rfl, hk⟩ | (simp; exact hk)
  case c3 => rw [LX.out, LZ.out]; omega
  case c4 => rw [HX.out]; exact ints_oneCell _ _
  case c5 => exact below_of_grown HB1.out (Nat.le_refl _) (by simp)
  intro w2 h2 hb2
  go_wp2
  go_ret
  refine ⟨rfl, Nat.le_refl _, ?_, hb2⟩
  have := h2.out
  rw [HS.out, HX.out] at this
  exact this
end Go.Proofs.Ytgkbkkhlnidigaa
