/- RankTold at what comes in. -/
import Derived.Test.YtpphjiialgmidaaRankTold
set_option linter.unusedVariables false
set_option linter.unusedSimpArgs false
namespace Go.Tk
open Go Go.RowKit
def bytesV (zs : List Int) : List UInt8 := zs.map fun z => UInt8.ofNat z.toNat
theorem nums_bytesV {zs : List Int} (h : ∀ z ∈ zs, 0 ≤ z ∧ z < 256) : nums (bytesV zs) = zs := by
  unfold nums bytesV
  rw [List.map_map]
  conv => rhs; rw [← List.map_id zs]
  apply List.map_congr_left
  intro z hz
  have := h z hz
  simp
  omega
end Go.Tk
namespace Go.Proofs.Ytpphjiialgmidaa
open Go.RowKit Go.Tk
theorem told_in (w : World) (a : Option Addr) (n c : Nat) (l : List Bool) (h : SlB w a n c l) (hc : c ≤ 140737488351232) (at_ : Int) (hat : (Lit.int .i64 at_).wf = true) (by_ : Int) (hby : (Lit.int .u8 by_).wf = true) (a2 : Option Addr) (n2 c2 : Nat) (z : List Int) (h2 : IsRow .u8 w a2 n2 c2 z) (hb2 : c2 * 1 ≤ 140737488351232) :
    Calls Try.prog 8 #[.slice a n c, .int .i64 at_, .int .u8 by_, .slice a2 n2 c2] w fun e w' => e = .returned (.bool true) ∧ Below w.heap.size w w' := by
  obtain ⟨hsl, hnil, hwf⟩ := h2.sl
  have hnum : nums (bytesV (z.take n2)) = z.take n2 := nums_bytesV (fun x hx => wf_u8 (hwf x hx))
  rw [← hnum] at hsl
  have hle := hsl.le
  have hbn : (bytesV (z.take n2)).length = n2 := by have := hsl.len; rwa [nums_len] at this
  generalize bytesV (z.take n2) = bs at hsl hbn
  subst hbn
  exact told_go w a n c l h hc at_ hat by_ (wf_u8 hby) a2 c2 bs hsl (by omega) hnil
end Go.Proofs.Ytpphjiialgmidaa
