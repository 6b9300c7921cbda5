/- UtfR UtfRN UtfC, laid as one. -/
import Derived.Test.YtlhcejbimlilaaaGreatDoorUtfN
import Derived.Deep.RegionHeld3
import Derived.Deep.RegionWith
import Derived.Deep.DrawnRows
set_option linter.unusedVariables false
set_option linter.unusedSimpArgs false
/- The document's guess. -/
namespace Go.Tk
open Go Go.RowKit
theorem SlI.bytes {P : Program} {w : World} {src e dst : TypeId} {a : Option Addr} {c : Nat} {b : List UInt8} (hs : P.underlying src = some (.slice e)) (he : P.underlying e = some (.int .u8)) (hd : P.underlying dst = some .string)
    (h : SlI .u8 w a b.length c (nums b)) : (convert src dst (.slice a b.length c)).run P w = .ok (.string ⟨b.toArray⟩) w := by
  by_cases hb : b = []
  · subst hb
    cases a with
    | none => exact run_convert_bytes_nil w src e hs he 0 c dst hd
    | some x => exact run_convert_bytes_back w src dst e x c [] hs he hd (fun j hj => by simp at hj)
  · have h0 : 0 < b.length := List.length_pos_iff.2 hb
    obtain ⟨g, o, rfl, _⟩ := h.cell 0 h0
    refine run_convert_bytes_back w src dst e ⟨g, o, none⟩ c b hs he hd fun j hj => ?_
    obtain ⟨g', o', he', hc⟩ := h.cell j hj
    obtain ⟨rfl, rfl⟩ : g = g' ∧ o = o' := by simpa using he'
    rw [Addr.add_lit, hc, nums_getD b j hj]
end Go.Tk
namespace Go.Proofs.YtlhcejbimlilaaaGreatDoor
open Go.RowKit Go.Tk
end Go.Proofs.YtlhcejbimlilaaaGreatDoor
/- The document's Next. -/
namespace Go.Proofs.YtlhcejbimlilaaaGreatDoor
open Go.RowKit Go.Tk
end Go.Proofs.YtlhcejbimlilaaaGreatDoor
/- Check: the program's, the document's. -/
namespace Go.Tk
open Go Go.RowKit
end Go.Tk
namespace Go.Proofs.YtlhcejbimlilaaaGreatDoor
open Go.RowKit Go.Tk
end Go.Proofs.YtlhcejbimlilaaaGreatDoor
