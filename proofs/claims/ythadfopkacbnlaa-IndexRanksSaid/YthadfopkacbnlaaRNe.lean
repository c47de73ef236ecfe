/-
  Reals: from chapter 3's Ne, what is needed here.
-/
import Derived.Test.YthadfopkacbnlaaRRt
import Derived.Deep.RegionHeld3
import Derived.RegionTactic
namespace Go.Proofs.Ythadfopkacbnlaa.n03
open Go.RowKit Go.K Go.R
set_option linter.unusedVariables false
set_option linter.unusedSimpArgs false
/-- A rung of a word. -/
def rg (x : Nat) : Nat := x % 2147483648
/-- No infinity, nothing that is no number. -/
def finW (x : Nat) : Bool := decide (rg x < 2139095040)
end Go.Proofs.Ythadfopkacbnlaa.n03

