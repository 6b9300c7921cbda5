/- RankAnswers at what comes in. -/
import Derived.Test.YtpphjiialgmidaaRankAnswers
set_option linter.unusedVariables false
set_option linter.unusedSimpArgs false
namespace Go.Proofs.Ytpphjiialgmidaa
open Go.RowKit Go.Tk
theorem answers_in (w : World) (a0 : Option Addr) (n0 c0 : Nat) (l0 : List Bool) (h0 : SlB w a0 n0 c0 l0) (hk0 : c0 ≤ 140737488351232) (a1 : Option Addr) (n1 c1 : Nat) (l1 : List Bool) (h1 : SlB w a1 n1 c1 l1) (hk1 : c1 ≤ 140737488351232) (a2 : Option Addr) (n2 c2 : Nat) (asks : Nat → AskV) (h2 : AsksAt w a2 n2 c2 asks) (a3 : Option Addr) (n3 c3 : Nat) (l3 : List Bool) (h3 : SlB w a3 n3 c3 l3) (hk3 : c3 ≤ 140737488351232) :
    Calls Try.prog 5 #[.slice a0 n0 c0, .slice a1 n1 c1, .slice a2 n2 c2, .slice a3 n3 c3] w fun e w' => e = .returned (.bool true) ∧ Below w.heap.size w w' :=
  answers_go w a0 n0 c0 l0 h0 a1 n1 c1 l1 h1 a2 n2 c2 asks h2 a3 n3 c3 l3 h3 hk0 hk1
end Go.Proofs.Ytpphjiialgmidaa
