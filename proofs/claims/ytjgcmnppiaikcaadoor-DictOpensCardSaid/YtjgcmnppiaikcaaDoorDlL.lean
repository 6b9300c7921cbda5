/- Bytes lent, with their holder's behind the end; given back as they were. -/
import Derived.Test.YtjgcmnppiaikcaaDoorDkV
import Derived.Test.YtjgcmnppiaikcaaDoorSamesameBytes16
set_option linter.unusedVariables false
set_option linter.unusedSimpArgs false
namespace Go.Proofs.YtjgcmnppiaikcaaDoor
open Go.RowKit Go.Tk
set_option maxRecDepth 100000 in
set_option maxHeartbeats 1000000 in
theorem lentD_calls (w : World) (a : Option Addr) (n c : Nat) (z : List Int) (h : SlI .u8 w a n c z) (hn : n ≤ 140737488351232) :
    Calls Tryd.prog 4 #[.slice a n c] w fun e w' => e = .returned (.slice (some ⟨w.heap.size, 0, none⟩) n (n + 2)) ∧ Fresh .u8 5 w w' w.heap.size (z ++ [171, 172]) := by
  obtain ⟨i0, hi, hz0, hz1, hz2⟩ := info_parts Tryd.infoU8
  obtain ⟨Z, hZ⟩ : ∃ Z, Z = List.replicate (n + 2) (Value.int .u8 0) := ⟨_, rfl⟩
  obtain ⟨X, hX⟩ : ∃ X, X = z.map (Value.int .u8) := ⟨_, rfl⟩
  have lZ : Z.length = n + 2 := by rw [hZ]; simp
  have lX : X.length = n := by rw [hX]; simp [h.len]
  have hsp : splice Z 0 X = X ++ [.int .u8 0, .int .u8 0] := by
    rw [hZ]
    simp [splice, lX, List.drop_replicate]
  have hcells : 0 < X.length → ∃ ad, a = some ad ∧ ∀ j v, X[j]? = some v → w.cell? (ad.add j) = some v := by
    intro hp
    obtain ⟨b, o, rfl, _⟩ := h.cell 0 (by omega)
    refine ⟨_, rfl, fun j v hj => ?_⟩
    rw [hX] at hj
    simp only [List.getElem?_map, Option.map_eq_some_iff] at hj
    obtain ⟨x, hx, rfl⟩ := hj
    obtain ⟨hl, hx'⟩ := List.getElem?_eq_some_iff.1 hx
    obtain ⟨b', o', e, hc⟩ := h.cell j (by have := h.len; omega)
    obtain ⟨rfl, rfl⟩ : b = b' ∧ o = o' := by simpa using e
    rw [Addr.add_lit, hc]
    simp [hl, hx']
  have hzl := h.len
  have HZ := Lib.hid hZ
  have HX := Lib.hid hX
  have LZ := Lib.hid lZ
  have LX := Lib.hid lX
  have HS := Lib.hid hsp
  have HC := Lib.hid hcells
  have HZL := Lib.hid hzl
  clear hZ hX lZ lX hsp hcells h hzl
  go_enter Tryd.func4, Tryd.ntmps4
  go_wp2_with (first
    | (at_make; refine wpList_mk rfl _ _ _ rfl 5 i0 (.int .u8 0) 1 Tryd.underlying22 hi hz0 hz1 hz2 rfl _ _ _ _ (n + 2) rfl rfl (by go_num) (by go_num) (by omega) (by omega) ?_; intro w1 hw1 hb1; rw [← HZ.out] at hw1; have HW := Lib.hid hw1; have HB1 := Lib.hid hb1; clear hw1 hb1)
    | (with_reducible refine wpList_copy_splice rfl (.tmp 8) (.tmp 9) _ _ rfl 5 Tryd.underlying22 (by rw [hi]; simp [hz1]) _ _ _ _ _ _ rfl rfl w.heap.size 0 Z 5 HW.out X ?c1 ?c2 ?c3 ?c4 w.heap.size w ?c5 (Nat.le_refl _) ?_))
  case c1 => rw [LX.out]; simp
  case c2 =>
    intro hp
    obtain ⟨ad, rfl, hc⟩ := HC.out hp
    have hk : ∀ j v, X[j]? = some v → w1.cell? (ad.add j) = some v := fun j v hj => HB1.out.cell (hc j v hj) (by simp)
    first | exact ⟨rfl, ad, rfl, hk⟩ | exact ⟨ad, rfl, hk⟩ | (simp; exact hk)
  case c3 => rw [LX.out, LZ.out]; omega
  case c4 => rw [HX.out]; exact ints_oneCell _ _
  case c5 => exact below_of_grown HB1.out (Nat.le_refl _) (by simp)
  intro w2 h2 hb2
  have hrow : RowI .u8 5 w2 w.heap.size (z ++ [0, 0]) := by
    have := h2
    rw [HS.out, HX.out] at this
    unfold RowI
    rw [this]; simp
  have h3 := (hrow.set n 171)
  have h4 := (h3.set (n + 1) 172)
  have he : ((z ++ [0, 0]).set n 171).set (n + 1) 172 = z ++ [171, 172] := by
    have e := HZL.out
    subst e
    simp
  rw [he] at h4
  have c0 := hrow.cell n (by simp [HZL.out])
  have c1 := h3.cell (n + 1) (by simp [HZL.out])
  have f0 := hrow.frozen n
  have f1 := h3.frozen (n + 1)
  have HROW := Lib.hid hrow
  have H3 := Lib.hid h3
  have H4 := Lib.hid h4
  have HB2 := Lib.hid hb2
  have hlt := hrow.lt
  clear h2 hb2 hrow h3 h4 he
  go_wp2
  go_ret
  refine ⟨rfl, Nat.le_refl _, H4.out, ?_⟩
  exact (HB2.out.setCell (p := ⟨w.heap.size, n, none⟩) (Nat.le_refl _) _).setCell (p := ⟨w.heap.size, n + 1, none⟩) (Nat.le_refl _) _
theorem backD_calls (w : World) (g : Nat) (a : Option Addr) (n c : Nat) (z : List Int) (hrow : RowI .u8 5 w g (z ++ [171, 172])) (h : SlI .u8 w a n c z) (hn : n ≤ 140737488351232) :
    Calls Tryd.prog 10 #[.slice (some ⟨g, 0, none⟩) n (n + 2), .slice a n c] w fun e w' => e = .returned (.bool true) ∧ ∃ m, w' = w.drewN m := by
  have hzl := h.len
  have hsl := hrow.sl n (n + 2) (by simp; omega) (by simp; omega) (by omega)
  have ht : (z ++ [171, 172]).take n = z := by rw [← hzl]; simp
  rw [ht] at hsl
  have hsm := sameBytes16_calls w _ n (n + 2) z a n c z hsl h
  rw [sameB_yes rfl] at hsm
  have c0 := hrow.cell n (by simp; omega)
  have c1 := hrow.cell (n + 1) (by simp; omega)
  have e0 : (z ++ [171, 172]).getD n 0 = 171 := by rw [← hzl]; simp
  have e1 : (z ++ [171, 172]).getD (n + 1) 0 = 172 := by rw [← hzl]; simp
  rw [e0] at c0
  rw [e1] at c1
  have HSM := Lib.hid hsm
  clear hsm hsl ht hrow h hzl e0 e1
  go_enter Tryd.func10, Tryd.ntmps10
  go_wp2_with (go_at_call 26; refine HSM.out.mono ?_; rintro e w1 ⟨rfl, m, rfl⟩)
  go_ret
  exact ⟨rfl, _, rfl⟩
end Go.Proofs.YtjgcmnppiaikcaaDoor
