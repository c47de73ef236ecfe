/-
  Reals: from chapter 3's Pt, what is needed here.
-/
import Derived.Test.YtndhlgbpfkidbaaRPs
namespace Go.Proofs.Ytndhlgbpfkidbaa.n03
open Go.RowKit Go.K Go.R
set_option linter.unusedVariables false
set_option linter.unusedSimpArgs false
/-- Nothing added: no zero with a sign is left. -/
theorem add_zero (t : Nat) (ht : t < 4294967296) (h : rg t < 2139095040) : Ieee.single.add t 0 = some (if rg t = 0 then 0 else t) := by
  have h1 := add_num h (show rg 0 < 2139095040 by decide)
  have u0 : upV 0 = 0 := by unfold upV mV sc; rw [show pm (rg 0) = 0 by decide, Nat.zero_mul]; split <;> rfl
  have d0 : dnV 0 = 0 := by unfold dnV; rw [if_neg (by decide)]
  have s0 : sgn 0 = false := by decide
  rw [u0, d0, s0, Nat.add_zero, Nat.add_zero, Bool.and_false] at h1
  have hk := kind_word ht
  have hv : nearD (upV t) (dnV t) false = if rg t = 0 then 0 else t := by
    unfold nearD upV dnV
    by_cases h0 : mV t = 0
    · have hr := mV_zero h0
      rw [if_pos hr]
      have e1 : (if sgn t then 0 else mV t) = 0 := by split <;> first | rfl | exact h0
      have e2 : (if sgn t then mV t else 0) = 0 := by split <;> first | rfl | exact h0
      rw [e1, e2]; rfl
    · have hr : rg t ≠ 0 := fun hr => h0 (by unfold mV sc; rw [hr, pm_zero, Nat.zero_mul])
      have hn : Ieee.single.nearest false (mV t) (-600) = rg t := by
        unfold mV
        rw [nearest_sc _ _ (by have := pe_ge (rg t); omega), nearest_self _ h]
      rw [if_neg hr]
      cases hsg : sgn t
      · rw [hsg] at hk
        simp only [Bool.false_eq_true, if_false]
        rw [if_pos (by omega), Nat.sub_zero, hn]
        exact hk.symm
      · rw [hsg] at hk
        simp only [if_true]
        rw [if_neg (by omega), if_pos (by omega), Nat.sub_zero, hn]
        exact hk.symm
  rw [hv] at h1
  have hfin : rg (if rg t = 0 then 0 else t) < 2139095040 := by
    split
    · decide
    · exact h
  have hne : (if rg t = 0 then 0 else t) ≠ 2143289344 := by
    intro h2
    rw [h2] at hfin
    exact absurd hfin (by decide)
  generalize (if rg t = 0 then 0 else t) = N at *
  cases ha : Ieee.single.add t 0 with
  | none => rw [ha] at h1; exact absurd h1.symm hne
  | some r =>
    rw [ha] at h1
    have h2 : cleanW r = N := h1
    unfold cleanW at h2
    split at h2
    · exact absurd h2.symm hne
    · rw [h2]
end Go.Proofs.Ytndhlgbpfkidbaa.n03

