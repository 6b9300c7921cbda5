/- RankOpens at what comes in. -/
import Derived.Test.YtpphjiialgmidaaDoorRankOpens
set_option linter.unusedVariables false
set_option linter.unusedSimpArgs false
namespace Go.Tk
open Go Go.RowKit
def bytesU (zs : List Int) : List UInt8 := zs.map fun z => UInt8.ofNat z.toNat
theorem nums_bytesU {zs : List Int} (h : ∀ z ∈ zs, 0 ≤ z ∧ z < 256) : nums (bytesU zs) = zs := by
  unfold nums bytesU
  rw [List.map_map]
  conv => rhs; rw [← List.map_id zs]
  apply List.map_congr_left
  intro z hz
  have := h z hz
  simp
  omega
end Go.Tk
namespace Go.Proofs.YtpphjiialgmidaaDoor
open Go.RowKit Go.Tk
theorem opens_in (w : World) (a : Option Addr) (n c : Nat) (z : List Int) (h : IsRow .u8 w a n c z) (hb : c * 1 ≤ 140737488351232) (hg : HandleMet w) :
    Calls Tryd.prog 3 #[.slice a n c] w fun e w' => e = .returned (.bool true) ∧ Below w.heap.size w w' := by
  obtain ⟨hsl, hnil, hwf⟩ := h.sl
  have hnum : nums (bytesU (z.take n)) = z.take n := nums_bytesU (fun x hx => wf_u8 (hwf x hx))
  rw [← hnum] at hsl
  have hle := hsl.le
  have hbn : (bytesU (z.take n)).length = n := by have := hsl.len; rwa [nums_len] at this
  generalize bytesU (z.take n) = bs at hsl hbn
  subst hbn
  exact opens_go w a c bs hsl (by omega) hg
end Go.Proofs.YtpphjiialgmidaaDoor
