/- RankWild at what comes in. -/
import Derived.Test.YtpphjiialgmidaaRankWild
set_option linter.unusedVariables false
set_option linter.unusedSimpArgs false
namespace Go.Proofs.Ytpphjiialgmidaa
open Go.RowKit Go.Tk
theorem wild_go (w : World) (a : Option Addr) (n c : Nat) (z : List Int) (h : IsRow .u8 w a n c z) (hb : c * 1 ≤ 140737488351232) (a2 : Option Addr) (n2 c2 : Nat) (z2 : List Int) (h2 : IsRow .i64 w a2 n2 c2 z2) (hb2 : c2 * 8 ≤ 140737488351232) :
    Calls Try.prog 10 #[.slice a n c, .slice a2 n2 c2] w fun e w' => e = .returned (.bool true) ∧ Below w.heap.size w w' := by
  obtain ⟨hsl, hnil, hwf⟩ := h.sl
  obtain ⟨hsl2, hnil2, hwf2⟩ := h2.sl
  have hnum : nums (bytesW (z.take n)) = z.take n := nums_bytesW (fun x hx => wf_u8 (hwf x hx))
  rw [← hnum] at hsl
  have hle := hsl.le
  have hbn : (bytesW (z.take n)).length = n := by have := hsl.len; rwa [nums_len] at this
  generalize bytesW (z.take n) = bs at hsl hbn
  subst hbn
  exact wild_bytes w a c bs hsl (by omega) a2 n2 c2 _ hsl2 hwf2
end Go.Proofs.Ytpphjiialgmidaa
