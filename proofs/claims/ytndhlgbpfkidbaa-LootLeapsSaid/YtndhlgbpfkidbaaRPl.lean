/-
  Reals: from chapter 3's Pl, what is needed here.
-/
import Derived.Test.YtndhlgbpfkidbaaRPk
namespace Go.Proofs.Ytndhlgbpfkidbaa.n03
open Go.RowKit Go.K Go.R
open Ieee (Format Datum Toward)
set_option linter.unusedVariables false
set_option linter.unusedSimpArgs false
/-- The digits kept of a sum, rounded. -/
def keptV (v : Nat) : Nat := v / 2 ^ (v.log2 - 23) + (more v (2 ^ (v.log2 - 23))).toNat
theorem keptV_le (v : Nat) (h0 : 0 < v) : keptV v ≤ 16777216 := by
  unfold keptV
  have h1 : v < 2 ^ (v.log2 + 1) := Nat.lt_log2_self
  have h2 : (2 : Nat) ^ (v.log2 + 1) ≤ 2 ^ 24 * 2 ^ (v.log2 - 23) := by
    rw [← Nat.pow_add]; exact Nat.pow_le_pow_right (by decide) (by omega)
  have h3 : (2 : Nat) ^ 24 = 16777216 := by decide
  rw [h3] at h2
  have hq : v / 2 ^ (v.log2 - 23) < 16777216 := by rw [Nat.div_lt_iff_lt_mul (Nat.two_pow_pos _)]; exact Nat.lt_of_lt_of_le h1 h2
  have hm : (more v (2 ^ (v.log2 - 23))).toNat ≤ 1 := by cases more v (2 ^ (v.log2 - 23)) <;> decide
  omega
theorem near_min (v : Nat) (h0 : 0 < v) : Ieee.single.nearest false v (-149) = min ((v.log2 - 23) * 8388608 + keptV v) 2139095040 := by
  unfold Format.nearest
  rw [if_neg (by omega), single_least, single_binade, single_inf]
  have hf : Ieee.single.fractionBits = 23 := rfl
  rw [hf]
  have hl : max (-149 + (v.log2 : Int) - ((23 : Nat) : Int)) (-149) = ((v.log2 - 23 : Nat) : Int) - 149 := by omega
  rw [hl]
  dsimp only
  rw [cut_units false v (-149) (((v.log2 - 23 : Nat) : Int) - 149) (-149) (Int.le_refl _) (by omega), wd_word, wd_false, sc_self]
  have e1 : (((v.log2 - 23 : Nat) : Int) - 149 - -149).toNat = v.log2 - 23 := by omega
  rw [e1]
  have h : keptV v = v / 2 ^ (v.log2 - 23) + (more v (2 ^ (v.log2 - 23))).toNat := rfl
  rw [← h]
theorem near_units (v : Nat) (h0 : 0 < v) (hv : v.log2 ≤ 270) : Ieee.single.nearest false v (-149) = (v.log2 - 23) * 8388608 + keptV v := by
  have hk := keptV_le v h0
  rw [near_min v h0, Nat.min_eq_left (by omega)]
theorem keptV_ge (v : Nat) (h0 : 0 < v) (hs : 0 < v.log2 - 23) : 8388608 ≤ keptV v := by
  unfold keptV
  have h1 : 2 ^ v.log2 ≤ v := Nat.log2_self_le (by omega)
  have h2 : (2 : Nat) ^ 23 * 2 ^ (v.log2 - 23) = 2 ^ v.log2 := by rw [← Nat.pow_add]; congr 1; omega
  have h3 : (2 : Nat) ^ 23 = 8388608 := by decide
  rw [h3] at h2
  have hq : 8388608 ≤ v / 2 ^ (v.log2 - 23) := by rw [Nat.le_div_iff_mul_le (Nat.two_pow_pos _), h2]; exact h1
  omega
/-- The digits kept, at their place, round to themselves. -/
theorem near_kept (v : Nat) (h0 : 0 < v) (hlt : (v.log2 - 23) * 8388608 + keptV v < 2139095040) : Ieee.single.nearest false (keptV v) (((v.log2 - 23 : Nat) : Int) - 149) = (v.log2 - 23) * 8388608 + keptV v := by
  have hk := keptV_le v h0
  have hg := fun hs => keptV_ge v h0 hs
  generalize keptV v = M at *
  generalize v.log2 - 23 = s at *
  by_cases h : M < 16777216
  · obtain ⟨p1, p2⟩ := rung_parts s M h (by by_cases hs : s = 0; exact .inl hs; exact .inr (hg (by omega)))
    have := nearest_self (s * 8388608 + M) hlt
    rw [p1, p2] at this
    exact this
  · have hM : M = 16777216 := by omega
    obtain ⟨p1, p2⟩ := rung_parts (s + 1) 8388608 (by decide) (.inr (Nat.le_refl _))
    have e0 : (s + 1) * 8388608 + 8388608 = s * 8388608 + M := by omega
    have hlt2 : (s + 1) * 8388608 + 8388608 < 2139095040 := by rw [e0]; exact hlt
    have := nearest_self ((s + 1) * 8388608 + 8388608) hlt2
    rw [p1, p2, e0] at this
    rw [← this]
    have e1 : sc (-600) M ((s : Int) - 149) = sc (-600) 8388608 (((s + 1 : Nat) : Int) - 149) := by
      have h3 : ((s : Int) - 149) + ((1 : Nat) : Int) = ((s + 1 : Nat) : Int) - 149 := by omega
      have h1 : sc (-600) (8388608 * 2 ^ 1) ((s : Int) - 149) = sc (-600) 8388608 (((s : Int) - 149) + ((1 : Nat) : Int)) := sc_mul (-600) 8388608 1 ((s : Int) - 149) (by omega)
      rw [h3] at h1
      exact (congrArg (fun z => sc (-600) z ((s : Int) - 149)) (show M = 8388608 * 2 ^ 1 from hM)).trans h1
    rw [← nearest_sc M _ (by omega), e1, nearest_sc _ _ (by omega)]
end Go.Proofs.Ytndhlgbpfkidbaa.n03

