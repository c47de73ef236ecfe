/-
  Reals: from chapter 3's No, what is needed here.
-/
import Derived.Test.YthadfopkacbnlaaRNl
namespace Go.Proofs.Ythadfopkacbnlaa.n03
open Go.RowKit Go.K Go.R
set_option linter.unusedVariables false
set_option linter.unusedSimpArgs false
theorem cls3 (x : Nat) (hx : x < 4294967296) : cleanW x < 4294967296 ∧ ((nanW x = true ∧ cleanW x = 2143289344) ∨ (nanW x = false ∧ cleanW x = x ∧ x ≠ 2143289344 ∧ ((rg x = 2139095040 ∧ finW x = false) ∨ (rg x < 2139095040 ∧ finW x = true)))) := by
  obtain ⟨h1, h2⟩ := cls x hx
  refine ⟨h1, ?_⟩
  rcases h2 with h | ⟨h3, h4, h5, h6⟩
  · exact .inl h
  · refine .inr ⟨h3, h4, h5, ?_⟩
    rcases h6 with ⟨h, _⟩ | ⟨h, _⟩ | ⟨_, h, _⟩
    · exact .inl ⟨h, decide_eq_false (by omega)⟩
    · exact .inr ⟨by omega, decide_eq_true (by omega)⟩
    · exact .inr ⟨h, decide_eq_true h⟩
end Go.Proofs.Ythadfopkacbnlaa.n03

