/- How far a test holds in a dictionary of any bytes: the closure that the halving asks. -/
import Derived.Test.YtjgcmnppiaikcaaDoorDkG
import Derived.Test.YtjgcmnppiaikcaaDoorDkI
import Derived.Test.YtjgcmnppiaikcaaDoorQu
set_option linter.unusedVariables false
set_option linter.unusedSimpArgs false
namespace Go.Proofs.YtjgcmnppiaikcaaDoor
open Go.RowKit Go.Shelf Go.Tk
attribute [local go_sem] Oper.semAt_some
/-- Does the test not hold for block k's first entry, or is it none? -/
def tstB (pz : List Int) (wd : Nat) (eb : List UInt8) (tst : List UInt8 → Bool) (k : Nat) : Bool :=
  if (entP eb (numT pz wd k wd : Nat) true []).2.2 ≠ 0 then true else !tst (entP eb (numT pz wd k wd : Nat) true []).1
theorem num_small (pz : List Int) (wd k : Nat) (h : wd ≤ 27) : numT pz wd k wd ≤ 134217728 := by
  have := numT_lt pz wd k wd
  have h2 : 2 ^ wd ≤ 2 ^ 27 := Nat.pow_le_pow_right (by omega) h
  omega
theorem blocks_calls (w : World) (n : Nat) (hn : n ≤ 4194304) : Calls Tryd.prog 13 #[.int .i64 (n : Nat)] w fun e w' => e = .returned (.int .i64 (((n + 15) / 16 : Nat) : Int)) ∧ Below w.heap.size w w' := by
  have e1 : ((n : Int) + 15) / 16 = (((n + 15) / 16 : Nat) : Int) := by omega
  go_enter Tryd.func13, Tryd.ntmps13
  go_wp2
  go_ret
  exact ⟨by go_num, Below.refl _ _⟩
end Go.Proofs.YtjgcmnppiaikcaaDoor
