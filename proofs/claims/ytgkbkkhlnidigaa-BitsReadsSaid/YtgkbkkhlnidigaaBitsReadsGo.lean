/- BitsReads, from what the row hands. -/
import Derived.Test.YtgkbkkhlnidigaaBitsReads
import Derived.Test.YtgkbkkhlnidigaaOpen2
namespace Go.Proofs.Ytgkbkkhlnidigaa
open Go.RowKit Go.Tk Go.ChangeShapes Go.WideShapes Go.ChangeAt
set_option maxRecDepth 100000 in
theorem bitsreads_go {H : Type} {enc : TypeId × Value → H} (W : World) (xa : Option Addr) (xn xc : Nat) (za : List Int) (hx : IsRow .u8 W xa xn xc za) (bx : xc * 1 ≤ 140737488351232) (kx : ∀ x, xa = some x → x.block < W.heap.size)
    (ya : Option Addr) (yn yc : Nat) (zb : List Int) (hy : IsRow .u8 W ya yn yc zb) (by_ : yc * 1 ≤ 140737488351232) (ky : ∀ x, ya = some x → x.block < W.heap.size) (v : Value) (d : DataW H) (p : List MemPlace) {r : Reach} {b0 : Nat} (hv : Value.okWide Try.prog W r b0 45 v)
    (h : DataW.Trod enc Try.prog W 0 (fun _ => true) true 45 v d p) :
    Calls Try.prog 6 #[.slice xa xn xc, .slice ya yn yc, v] W fun e w' => e = .returned (.bool true) ∧ Below W.heap.size W w' := by
  obtain ⟨oa, on, oc, rfl⟩ := okWide_slice Try.underlying45 hv
  obtain ⟨ops, ho, _, _⟩ := open_ops h
  obtain ⟨s1, n1, w1⟩ := hx.sl
  obtain ⟨s2, n2, w2⟩ := hy.sl
  have l1 := s1.le
  have l2 := s2.le
  exact reads_calls W xa xn xc _ ya yn yc _ oa on oc ops s1 s2 ho (by omega) (by omega) n1 n2 kx ky (fun x hx => wf_u8 (w1 x hx)) (fun x hx => wf_u8 (w2 x hx))
end Go.Proofs.Ytgkbkkhlnidigaa
