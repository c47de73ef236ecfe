/-
  Reals: from chapter 3's Pk, what is needed here.
-/
import Derived.Test.YtndhlgbpfkidbaaRPj
namespace Go.Proofs.Ytndhlgbpfkidbaa.n03
open Go.RowKit Go.K Go.R
set_option linter.unusedVariables false
set_option linter.unusedSimpArgs false
/-- Behind the carry all limbs but the last are words of 32 bits. -/
theorem carry_low (L : List Int) (hl : L.length = 11) : ∀ k, k ≤ 10 → ∀ j, j < k → 0 ≤ (carryL k L).getD j 0 ∧ (carryL k L).getD j 0 < 4294967296
  | 0, _, j, h => absurd h (by omega)
  | k + 1, hk, j, h => by
    have ih := carry_low L hl k (by omega) j
    have hlen : (carryL k L).length = 11 := by rw [carryL_len, hl]
    unfold carryL
    rw [getD_set _ _ _ _ (by rw [List.length_set]; omega)]
    by_cases e : j = k
    · rw [if_pos e]; omega
    · rw [if_neg e, getD_set _ _ _ _ (by omega), if_neg (by omega)]
      exact ih (by omega)
theorem SL_lt : ∀ (l : List Int), (∀ j, j < l.length → 0 ≤ l.getD j 0 ∧ l.getD j 0 < 4294967296) → 0 ≤ SL l ∧ SL l < 4294967296 ^ l.length
  | [], _ => by decide
  | a :: l, h => by
    have h0 := h 0 (by simp)
    have ih := SL_lt l (fun j hj => h (j + 1) (by simpa using hj))
    have h1 : 0 ≤ a ∧ a < 4294967296 := h0
    show 0 ≤ a + 4294967296 * SL l ∧ a + 4294967296 * SL l < 4294967296 ^ (l.length + 1)
    rw [Int.pow_succ]
    generalize (4294967296 : Int) ^ l.length = P at *
    omega
theorem SL_append : ∀ (l m : List Int), SL (l ++ m) = SL l + 4294967296 ^ l.length * SL m
  | [], m => by simp [SL]
  | a :: l, m => by
    have ih := SL_append l m
    show a + 4294967296 * SL (l ++ m) = a + 4294967296 * SL l + 4294967296 ^ (l.length + 1) * SL m
    rw [ih, Int.pow_succ, Int.mul_add]
    have e : (4294967296 : Int) ^ l.length * 4294967296 * SL m = 4294967296 * (4294967296 ^ l.length * SL m) := by rw [Int.mul_comm (4294967296 ^ l.length) 4294967296, Int.mul_assoc]
    rw [e]; omega
/-- The sign of what is carried is its last limb's. -/
theorem SL_sign (L : List Int) (hl : L.length = 11) (h : ∀ j, j < 10 → 0 ≤ L.getD j 0 ∧ L.getD j 0 < 4294967296) : ∃ r : Int, 0 ≤ r ∧ r < 4294967296 ^ 10 ∧ SL L = r + 4294967296 ^ 10 * L.getD 10 0 := by
  have e : L = L.take 10 ++ [L.getD 10 0] := by
    have h1 : L.getD 10 0 = L[10]'(by omega) := by rw [List.getD_eq_getElem?_getD, List.getElem?_eq_getElem (by omega)]; rfl
    rw [h1, ← List.take_succ_eq_append_getElem (by omega), List.take_of_length_le (by omega)]
  have hlen : (L.take 10).length = 10 := by rw [List.length_take]; omega
  have hs := SL_lt (L.take 10) (fun j hj => by
    have hj2 : j < 10 := by omega
    have e2 : (L.take 10).getD j 0 = L.getD j 0 := by
      rw [List.getD_eq_getElem?_getD, List.getElem?_take, if_pos hj2, ← List.getD_eq_getElem?_getD]
    rw [e2]; exact h j hj2)
  rw [hlen] at hs
  refine ⟨SL (L.take 10), hs.1, hs.2, ?_⟩
  conv => lhs; rw [e]
  rw [SL_append, hlen]
  have e3 : SL [L.getD 10 0] = L.getD 10 0 := by simp [SL]
  rw [e3]
end Go.Proofs.Ytndhlgbpfkidbaa.n03

