/- BitsOne, from what the row hands. -/
import Derived.Test.YtgkbkkhlnidigaaBitsOne
import Derived.Test.YtgkbkkhlnidigaaOpen2
namespace Go.Proofs.Ytgkbkkhlnidigaa
open Go.RowKit Go.Tk Go.ChangeShapes Go.WideShapes Go.ChangeAt
set_option maxRecDepth 100000 in
theorem bitsone_go {H : Type} {enc : TypeId × Value → H} (W : World) (xa : Option Addr) (xn xc : Nat) (za : List Int) (hx : IsRow .u8 W xa xn xc za) (bx : xc * 1 ≤ 140737488351232) (kx : ∀ x, xa = some x → x.block < W.heap.size)
    (v : Value) (d : DataW H) (p : List MemPlace) {r : Reach} {b0 : Nat} (hv : Value.okWide Try.prog W r b0 45 v)
    (h : DataW.Trod enc Try.prog W 0 (fun _ => true) true 45 v d p) :
    Calls Try.prog 8 #[.slice xa xn xc, v] W fun e w' => e = .returned (.bool true) ∧ Below W.heap.size W w' := by
  obtain ⟨oa, on, oc, rfl⟩ := okWide_slice Try.underlying45 hv
  obtain ⟨ops, ho, _, _⟩ := open_ops h
  obtain ⟨s1, n1, w1⟩ := hx.sl
  have l1 := s1.le
  have e1 := s1.len
  have := one_calls W xa xc (za.take xn) oa on oc ops (by rw [e1]; exact s1) ho (by omega) n1 kx (fun x hx => wf_u8 (w1 x hx))
  rw [e1] at this
  exact this
end Go.Proofs.Ytgkbkkhlnidigaa
