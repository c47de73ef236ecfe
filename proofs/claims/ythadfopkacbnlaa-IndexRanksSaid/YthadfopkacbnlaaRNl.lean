/-
  Reals: from chapter 3's Nl, what is needed here.
-/
import Derived.Test.YthadfopkacbnlaaRNk
namespace Go.Proofs.Ythadfopkacbnlaa.n03
open Go.RowKit Go.K Go.R
set_option linter.unusedVariables false
set_option linter.unusedSimpArgs false
/-- What a word is, as the reference asks. -/
theorem cls (x : Nat) (hx : x < 4294967296) : cleanW x < 4294967296 ∧ ((nanW x = true ∧ cleanW x = 2143289344) ∨ (nanW x = false ∧ cleanW x = x ∧ x ≠ 2143289344 ∧ ((rg x = 2139095040 ∧ kindW x = 2) ∨ (rg x = 0 ∧ kindW x = 3) ∨ (0 < rg x ∧ rg x < 2139095040 ∧ kindW x ≠ 2 ∧ kindW x ≠ 3)))) := by
  cases hn : nanW x
  · have hc : cleanW x = x := by unfold cleanW; rw [hn]; rfl
    rw [hc]
    refine ⟨hx, .inr ⟨rfl, rfl, ?_, ?_⟩⟩
    · intro h
      rw [h] at hn
      exact absurd hn (by decide)
    · have h1 : rg x ≤ 2139095040 := by
        have := of_decide_eq_false hn
        unfold rg; omega
      unfold kindW
      rw [hn, if_neg (by decide)]
      unfold rg at *
      by_cases c1 : x % 2147483648 = 2139095040
      · exact .inl ⟨c1, by rw [if_pos c1]⟩
      · rw [if_neg c1]
        by_cases c2 : x % 2147483648 = 0
        · exact .inr (.inl ⟨c2, by rw [if_pos c2]⟩)
        · rw [if_neg c2]
          refine .inr (.inr ⟨by omega, by omega, ?_, ?_⟩)
          · split <;> decide
          · split <;> decide
  · have hc : cleanW x = 2143289344 := cleanW_nan hn
    rw [hc]
    exact ⟨by decide, .inl ⟨rfl, rfl⟩⟩
end Go.Proofs.Ythadfopkacbnlaa.n03

