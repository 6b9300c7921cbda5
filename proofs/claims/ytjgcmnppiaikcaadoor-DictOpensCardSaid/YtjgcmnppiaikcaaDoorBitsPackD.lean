/- BitsPackA BitsPackB BitsPackC BitsPackD, laid as one. -/
import Derived.Test.YtjgcmnppiaikcaaDoorBitsW
import Derived.BigRegion
import Derived.Test.YtjgcmnppiaikcaaDoorSamesame
import Derived.Test.YtjgcmnppiaikcaaDoorOpen
set_option linter.unusedVariables false
set_option linter.unusedSimpArgs false
/- bits.Pack's look at the widths; fits, room. -/
namespace Go.Tk
/-- Is one of the numbers wider than so many bits? -/
def anyW (zs : List Int) (wd : Int) : Bool := zs.any fun x => decide (wd < bw x)
def U64 (zs : List Int) : Prop := ∀ i, i < zs.length → 0 ≤ zs.getD i 0 ∧ zs.getD i 0 < 18446744073709551616
theorem anyW_yes {zs : List Int} {wd : Int} {k : Nat} (hk : k < zs.length) (h : wd < bw (zs.getD k 0)) : anyW zs wd = true := by
  unfold anyW
  rw [List.any_eq_true]
  exact ⟨zs[k], List.getElem_mem hk, by simpa [hk] using h⟩
theorem anyW_no {zs : List Int} {wd : Int} (h : ∀ i, i < zs.length → bw (zs.getD i 0) ≤ wd) : anyW zs wd = false := by
  unfold anyW
  rw [List.any_eq_false]
  intro x hx
  obtain ⟨i, hi, rfl⟩ := List.getElem_of_mem hx
  have := h i hi
  simp [hi] at this ⊢
  exact this
theorem anyW_le {zs : List Int} {wd : Int} (h : anyW zs wd = false) : ∀ i, i < zs.length → bw (zs.getD i 0) ≤ wd := by
  intro i hi
  rcases Int.lt_or_le wd (bw (zs.getD i 0)) with hh | hh
  · rw [anyW_yes hi hh] at h; cases h
  · exact hh
end Go.Tk
namespace Go.Proofs.YtjgcmnppiaikcaaDoor
open Go.RowKit Go.Tk
theorem fits_calls (wd : Int) (w : World) : Calls Tryd.prog 32 #[.int .i64 wd] w fun e w' => e = .returned (.bool (decide (0 ≤ wd ∧ wd ≤ 64))) ∧ w = w' := by
  by_cases h0 : 0 ≤ wd
  · go_enter Tryd.func32, Tryd.ntmps32
    go_wp2
    go_ret
    exact ⟨ret_bool (by simp [h0]), rfl⟩
  · go_enter Tryd.func32, Tryd.ntmps32
    go_wp2
    go_ret
    exact ⟨ret_bool (by simp; intro; omega), rfl⟩
theorem room_calls (n wd : Int) (w : World) (h0 : 0 ≤ n * wd) (h1 : n * wd ≤ 4611686018427387904) : Calls Tryd.prog 33 #[.int .i64 n, .int .i64 wd] w fun e w' => e = .returned (.int .i64 ((n * wd + 7) / 8)) ∧ w = w' := by
  go_enter Tryd.func33, Tryd.ntmps33
  go_wp2
  go_ret
  exact ⟨rfl, rfl⟩
theorem rroom_calls (n wd : Int) (w : World) (h0 : 0 ≤ n * wd) (h1 : n * wd ≤ 4611686018427387904) : Calls Tryd.prog 36 #[.int .i64 n, .int .i64 wd] w fun e w' => e = .returned (.int .i64 ((n * wd + 7) / 8)) ∧ w = w' := by
  go_enter Tryd.func36, Tryd.ntmps36
  go_wp2
  go_ret
  exact ⟨rfl, rfl⟩
end Go.Proofs.YtjgcmnppiaikcaaDoor
/- bits.Pack. -/
namespace Go.Proofs.YtjgcmnppiaikcaaDoor
open Go.RowKit Go.Tk
/-- What Pack of numbers that fit hands back: a row of its own. -/
def PackPost (w : World) (zs : List Int) (wd : Int) (n : Nat) (e : Ending) (w' : World) : Prop :=
  ∃ (d : Nat) (R g : Nat), wd = d ∧ R = (n * d + 7) / 8 ∧ e = .returned (.tuple #[.slice (some ⟨g, 0, none⟩) R R, .int .i64 0]) ∧ Fresh .u8 5 w w' g (packTo zs d R n)
end Go.Proofs.YtjgcmnppiaikcaaDoor
/- The document's Pack. -/
namespace Go.Proofs.YtjgcmnppiaikcaaDoor
open Go.RowKit Go.Tk
end Go.Proofs.YtjgcmnppiaikcaaDoor
/- BitsPacks: every Width and Pack; the list stays as it is, the answer is new memory. -/
namespace Go.Proofs.YtjgcmnppiaikcaaDoor
open Go.RowKit Go.Tk
/-- Do the numbers fit? -/
def packOk (zs : List Int) (wd : Int) : Bool := decide (0 ≤ wd ∧ wd ≤ 64) && !anyW zs wd
def packOut (zs : List Int) (wd : Int) : List Int := if packOk zs wd = true then packTo zs wd.toNat ((zs.length * wd.toNat + 7) / 8) zs.length else []
def packErr (zs : List Int) (wd : Int) : Int := if packOk zs wd = true then 0 else 14
theorem packErr_range (zs : List Int) (wd : Int) : 0 ≤ packErr zs wd ∧ packErr zs wd ≤ 14 := by unfold packErr; split <;> omega
/-- What Pack hands back. -/
def PackSays (w : World) (zs : List Int) (wd : Int) (e : Ending) (w' : World) : Prop :=
  ∃ v, e = .returned (.tuple #[v, .int .i64 (packErr zs wd)]) ∧ Ow .u8 5 w.heap.size w' v (packOut zs wd) ∧ Below w.heap.size w w'
theorem says_of_post {w : World} {zs : List Int} {wd : Int} {n : Nat} {e : Ending} {w' : World} (hn : zs.length = n) (hn2 : n ≤ 17592186044416) (h0 : 0 ≤ wd) (h1 : wd ≤ 64) (ha : anyW zs wd = false) (h : PackPost w zs wd n e w') : PackSays w zs wd e w' := by
  obtain ⟨d, R, g, rfl, hR, rfl, hf⟩ := h
  have hok : packOk zs (d : Int) = true := by simp [packOk, h0, h1, ha]
  have ho : packOut zs (d : Int) = packTo zs d R n := by
    unfold packOut
    rw [if_pos hok, Int.toNat_natCast, hn, ← hR]
  have hnd : n * d ≤ n * 64 := Nat.mul_le_mul_left n (by omega)
  refine ⟨_, by unfold packErr; rw [if_pos hok], ?_, hf.below⟩
  rw [ho]
  have := hf.row.ow hf.new (by rw [packTo_len]; omega)
  rwa [packTo_len] at this
theorem says_of_no {w : World} {zs : List Int} {wd : Int} {e : Ending} {w' : World} (hok : packOk zs wd = false) (h : e = .returned (.tuple #[.slice none 0 0, .int .i64 14]) ∧ Below w.heap.size w w') : PackSays w zs wd e w' := by
  refine ⟨.slice none 0 0, ?_, ?_, h.2⟩
  · rw [h.1]; unfold packErr; rw [hok]; rfl
  · unfold packOut; rw [hok]; exact Ow.nil _ _ _ _
end Go.Proofs.YtjgcmnppiaikcaaDoor
