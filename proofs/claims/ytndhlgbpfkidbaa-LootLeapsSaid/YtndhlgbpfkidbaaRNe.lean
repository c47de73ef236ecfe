/-
  Reals: from chapter 3's Ne, what is needed here.
-/
import Derived.Test.YtndhlgbpfkidbaaRNa
import Derived.Deep.RegionHeld3
import Derived.RegionTactic
namespace Go.Proofs.Ytndhlgbpfkidbaa.n03
open Go.RowKit Go.K Go.R
set_option linter.unusedVariables false
set_option linter.unusedSimpArgs false
theorem and_23 (x : Nat) : bits .and .u32 (x : Int) 8388607 = ((x % 8388608 : Nat) : Int) := by
  show IntKind.u32.wrap (((BitVec.ofInt 32 (x : Int)) &&& (BitVec.ofInt 32 8388607)).toNat : Int) = _
  have h1 : (BitVec.ofInt 32 (x : Int) &&& BitVec.ofInt 32 8388607).toNat = x % 8388608 := by
    rw [BitVec.toNat_and, BitVec.ofInt_natCast, BitVec.toNat_ofNat]
    have : (BitVec.ofInt 32 8388607).toNat = 2 ^ 23 - 1 := by decide
    rw [this, Nat.and_two_pow_sub_one_eq_mod]
    omega
  rw [h1, IntKind.wrap_u32]; omega
theorem and_8 (x : Nat) : bits .and .u32 (x : Int) 255 = ((x % 256 : Nat) : Int) := by
  show IntKind.u32.wrap (((BitVec.ofInt 32 (x : Int)) &&& (BitVec.ofInt 32 255)).toNat : Int) = _
  have h1 : (BitVec.ofInt 32 (x : Int) &&& BitVec.ofInt 32 255).toNat = x % 256 := by
    rw [BitVec.toNat_and, BitVec.ofInt_natCast, BitVec.toNat_ofNat]
    have : (BitVec.ofInt 32 255).toNat = 2 ^ 8 - 1 := by decide
    rw [this, Nat.and_two_pow_sub_one_eq_mod]
    omega
  rw [h1, IntKind.wrap_u32]; omega
/-- A rung of a word. -/
def rg (x : Nat) : Nat := x % 2147483648
/-- No infinity, nothing that is no number. -/
def finW (x : Nat) : Bool := decide (rg x < 2139095040)
theorem finW_kind (x : Nat) : decide (kindW x ≥ 3) = finW x := by
  unfold kindW finW nanW rg
  by_cases h1 : 2139095040 < x % 2147483648
  · simp [h1]; omega
  · by_cases h2 : x % 2147483648 = 2139095040
    · simp [h2]
    · have h3 : x % 2147483648 < 2139095040 := by omega
      by_cases h4 : x % 2147483648 = 0
      · simp [h4]
      · by_cases h5 : x % 2147483648 < 8388608
        · simp [h1, h2, h3, h4, h5]
        · simp [h1, h2, h3, h4, h5]
end Go.Proofs.Ytndhlgbpfkidbaa.n03

