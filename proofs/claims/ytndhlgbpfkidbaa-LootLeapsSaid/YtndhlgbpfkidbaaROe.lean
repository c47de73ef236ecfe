/-
  Reals: from chapter 3's Oe, what is needed here.
-/
import Derived.Test.YtndhlgbpfkidbaaROd
namespace Go.Proofs.Ytndhlgbpfkidbaa.n03
open Go.RowKit Go.K Go.R
set_option linter.unusedVariables false
set_option linter.unusedSimpArgs false
/-- How many whole ones, how what is left stands to a half, is something left? -/
def wN (m : Nat) (e : Int) : Nat := if 0 ≤ e then (if 40 < e then 9223372036854775808 else m * 2 ^ e.toNat) else if e < -40 then 0 else m / 2 ^ (-e).toNat
def wC (m : Nat) (e : Int) : Int := if 0 ≤ e then -1 else if e < -40 then -1 else icmp (m % 2 ^ (-e).toNat) (2 ^ ((-e).toNat - 1))
def wL (m : Nat) (e : Int) : Bool := if 0 ≤ e then false else if e < -40 then decide (0 < m) else decide (0 < m % 2 ^ (-e).toNat)
end Go.Proofs.Ytndhlgbpfkidbaa.n03

