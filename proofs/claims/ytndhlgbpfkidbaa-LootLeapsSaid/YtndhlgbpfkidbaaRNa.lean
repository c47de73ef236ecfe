/-
  Reals: from chapter 3's Na, what is needed here.
-/
import Derived.Test.YtndhlgbpfkidbaaRRd
import Derived.Test.YtndhlgbpfkidbaaGen
namespace Go.Proofs.Ytndhlgbpfkidbaa.n03
open Go.RowKit Go.K Go.R
set_option linter.unusedVariables false
set_option linter.unusedSimpArgs false

theorem szI : (Try.prog.info? 3).map (·.size) = some 1 := by kernel_rfl
theorem tquo_nat (a b : Nat) : Int.tdiv (a : Int) (b : Int) = ((a / b : Nat) : Int) := (Int.ofNat_tdiv a b).symm
theorem trem_nat (a b : Nat) : Int.tmod (a : Int) (b : Int) = ((a % b : Nat) : Int) := (Int.ofNat_tmod a b).symm
end Go.Proofs.Ytndhlgbpfkidbaa.n03

