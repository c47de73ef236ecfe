/-
  Reals: from chapter 3's No, what is needed here.
-/
import Derived.Test.YtndhlgbpfkidbaaRNk
namespace Go.Proofs.Ytndhlgbpfkidbaa.n03
open Go.RowKit Go.K Go.R
set_option linter.unusedVariables false
set_option linter.unusedSimpArgs false
theorem mV_zero {x : Nat} (h : mV x = 0) : rg x = 0 := by
  apply Nat.eq_zero_of_not_pos
  intro h0
  have h1 := pm_pos h0
  have h2 := Nat.mul_pos h1 (Nat.two_pow_pos (pe (rg x) - -600).toNat)
  unfold mV sc at h
  omega
end Go.Proofs.Ytndhlgbpfkidbaa.n03

