/- BitsPacks: every Width and Pack; the list stays as it is, the answer is new memory. -/
import Derived.Test.YtgajpekolamjbaaDoorBitsPackC
import Derived.Test.YtgajpekolamjbaaDoorRankCut
import Derived.Test.YtgajpekolamjbaaDoorOpen2
set_option linter.unusedVariables false
set_option linter.unusedSimpArgs false
namespace Go.Proofs.YtgajpekolamjbaaDoor
open Go.RowKit Go.Tk
/-- Do the numbers fit? -/
def packOk (zs : List Int) (wd : Int) : Bool := decide (0 ≤ wd ∧ wd ≤ 64) && !anyW zs wd
def packOut (zs : List Int) (wd : Int) : List Int := if packOk zs wd = true then packTo zs wd.toNat ((zs.length * wd.toNat + 7) / 8) zs.length else []
def packErr (zs : List Int) (wd : Int) : Int := if packOk zs wd = true then 0 else 14
theorem packErr_range (zs : List Int) (wd : Int) : 0 ≤ packErr zs wd ∧ packErr zs wd ≤ 14 := by unfold packErr; split <;> omega
/-- What Pack hands back. -/
def PackSays (w : World) (zs : List Int) (wd : Int) (e : Ending) (w' : World) : Prop :=
  ∃ v, e = .returned (.tuple #[v, .int .i64 (packErr zs wd)]) ∧ Ow .u8 5 w.heap.size w' v (packOut zs wd) ∧ Below w.heap.size w w'
theorem says_of_post {w : World} {zs : List Int} {wd : Int} {n : Nat} {e : Ending} {w' : World} (hn : zs.length = n) (hn2 : n ≤ 17592186044416) (h0 : 0 ≤ wd) (h1 : wd ≤ 64) (ha : anyW zs wd = false) (h : PackPost w zs wd n e w') : PackSays w zs wd e w' := by
  obtain ⟨d, R, g, rfl, hR, rfl, hf⟩ := h
  have hok : packOk zs (d : Int) = true := by simp [packOk, h0, h1, ha]
  have ho : packOut zs (d : Int) = packTo zs d R n := by
    unfold packOut
    rw [if_pos hok, Int.toNat_natCast, hn, ← hR]
  have hnd : n * d ≤ n * 64 := Nat.mul_le_mul_left n (by omega)
  refine ⟨_, by unfold packErr; rw [if_pos hok], ?_, hf.below⟩
  rw [ho]
  have := hf.row.ow hf.new (by rw [packTo_len]; omega)
  rwa [packTo_len] at this
theorem says_of_no {w : World} {zs : List Int} {wd : Int} {e : Ending} {w' : World} (hok : packOk zs wd = false) (h : e = .returned (.tuple #[.slice none 0 0, .int .i64 14]) ∧ Below w.heap.size w w') : PackSays w zs wd e w' := by
  refine ⟨.slice none 0 0, ?_, ?_, h.2⟩
  · rw [h.1]; unfold packErr; rw [hok]; rfl
  · unfold packOut; rw [hok]; exact Ow.nil _ _ _ _
end Go.Proofs.YtgajpekolamjbaaDoor
