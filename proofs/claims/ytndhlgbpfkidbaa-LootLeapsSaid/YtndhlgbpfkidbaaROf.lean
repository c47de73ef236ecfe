/-
  Reals: from chapter 3's Of, what is needed here.
-/
import Derived.Test.YtndhlgbpfkidbaaROe
namespace Go.Proofs.Ytndhlgbpfkidbaa.n03
open Go.RowKit Go.K Go.R
open Ieee (Format Datum Toward)
set_option linter.unusedVariables false
set_option linter.unusedSimpArgs false
/-- One more, as the reference tells it. -/
def adjW (way : Toward) (s : Bool) (n : Nat) (c : Int) (l : Bool) : Bool := match way with
  | .zero => false
  | .down => s && l
  | .up => !s && l
  | .even => decide (0 < c) || (c == 0 && n % 2 == 1)
theorem cut_adj (way : Toward) (x : Nat) (he : pe (rg x) < 0) : cutN way x = wN (pm (rg x)) (pe (rg x)) + (adjW way (sgn x) (wN (pm (rg x)) (pe (rg x))) (wC (pm (rg x)) (pe (rg x))) (wL (pm (rg x)) (pe (rg x)))).toNat := by
  have hm := pm_lt (rg x)
  unfold cutN wN wC wL
  generalize pm (rg x) = m at *
  generalize pe (rg x) = e at *
  have h0 : ¬ 0 ≤ e := by omega
  have e1 : e.toNat = 0 := by omega
  rw [if_neg h0, if_neg h0, if_neg h0, cut_way, e1, Nat.shiftLeft_eq, Nat.pow_zero, Nat.mul_one]
  obtain ⟨k, hk⟩ : ∃ k, (-e).toNat = k := ⟨_, rfl⟩
  rw [hk]
  by_cases h1 : e < -40
  · rw [if_pos h1, if_pos h1, if_pos h1]
    have hlt : 2 * m < 2 ^ k := by
      have h2 : (2 : Nat) ^ 40 ≤ 2 ^ k := Nat.pow_le_pow_right (by decide) (by omega)
      have h3 : (2 : Nat) ^ 40 = 1099511627776 := by decide
      rw [h3] at h2
      omega
    rw [Nat.div_eq_of_lt (show m < 2 ^ k by omega)]
    congr 2
    unfold moreW adjW
    rw [Nat.mod_eq_of_lt (show m < 2 ^ k by omega)]
    have b1 : (m != 0) = decide (0 < m) := by rw [Bool.eq_iff_iff]; simp; omega
    cases way
    · have b2 : decide (2 ^ k < 2 * m) = false := decide_eq_false (by omega)
      have b3 : (2 ^ k == 2 * m) = false := by rw [beq_eq_false_iff_ne]; omega
      simp [b2, b3]
    · dsimp only; rw [b1]
    · dsimp only; rw [b1]
    · rfl
  · rw [if_neg h1, if_neg h1, if_neg h1]
    congr 2
    unfold moreW adjW
    have b1 : (m % 2 ^ k != 0) = decide (0 < m % 2 ^ k) := by rw [Bool.eq_iff_iff]; simp; omega
    have hp : (2 : Nat) ^ k = 2 * 2 ^ (k - 1) := by rw [← Nat.pow_succ']; congr 1; omega
    cases way
    · dsimp only
      have b2 : decide (2 ^ k < 2 * (m % 2 ^ k)) = decide (0 < icmp (m % 2 ^ k) (2 ^ (k - 1))) := by
        rw [Bool.eq_iff_iff, decide_eq_true_iff, decide_eq_true_iff, icmp_gt]; omega
      have b3 : (2 ^ k == 2 * (m % 2 ^ k)) = (icmp (m % 2 ^ k) (2 ^ (k - 1)) == 0) := by
        rw [Bool.eq_iff_iff, beq_iff_eq, beq_iff_eq, icmp_eq]; omega
      rw [b2, b3]
    · dsimp only; rw [b1]
    · dsimp only; rw [b1]
    · rfl
end Go.Proofs.Ytndhlgbpfkidbaa.n03

