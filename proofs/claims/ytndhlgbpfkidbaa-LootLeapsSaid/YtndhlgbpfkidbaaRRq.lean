/-
  Reals: from chapter 3's Rq, what is needed here.
-/
import Derived.Test.YtndhlgbpfkidbaaRRn
namespace Go.R
open Ieee
set_option linter.unusedVariables false
set_option linter.unusedSimpArgs false

theorem sc_self (m : Nat) (e : Int) : sc e m e = m := by unfold sc; rw [Int.sub_self]; simp
theorem sc_up (B : Int) (m : Nat) (e f : Int) (h : B ≤ e) (h2 : e ≤ f) : sc B m f = sc B (m * 2 ^ (f - e).toNat) e := by
  rw [sc_mul B m _ e h]; congr 1; omega
/-- The whole root. -/
def whole (n : Nat) : Nat := Datum.rootFrom n (n.log2 / 2 + 1) 0
end Go.R
