/-
  Reals: from chapter 3's Nh, what is needed here.
-/
import Derived.Test.YthadfopkacbnlaaRNg
namespace Go.Proofs.Ythadfopkacbnlaa.n03
open Go.RowKit Go.K Go.R
open Ieee
set_option linter.unusedVariables false
set_option linter.unusedSimpArgs false
theorem nanW_rg (x : Nat) : nanW x = decide (2139095040 < rg x) := rfl
end Go.Proofs.Ythadfopkacbnlaa.n03

