/-
  Reals: from chapter 3's Ob, what is needed here.
-/
import Derived.Test.YtndhlgbpfkidbaaROa
namespace Go.Proofs.Ytndhlgbpfkidbaa.n03
open Go.RowKit Go.K Go.R
open Ieee (Format Datum Toward)
set_option linter.unusedVariables false
set_option linter.unusedSimpArgs false
theorem dzero (s : Bool) (p : Int) : Ieee.double.read (Ieee.double.nearest s 0 p) = .number s 0 (-1074) := by
  have h : Ieee.double.nearest s 0 p = Ieee.double.word s 0 := by unfold Format.nearest; rw [if_pos rfl]
  rw [h]
  cases s
  · decide
  · decide
theorem dnum (s : Bool) (m : Nat) (p : Int) (h0 : 0 < m) (hlo : -1022 ≤ p + m.log2) (hhi : p + m.log2 < 900) (k : Nat) (f : Int) (hk : k < 9007199254740992) (hf : -1074 ≤ f) (hp : -4000 ≤ p) (he : sc (-5000) k f = sc (-5000) m p) :
    ∃ M E, Ieee.double.read (Ieee.double.nearest s m p) = .number s M E ∧ -1074 ≤ E ∧ sc (-5000) M E = sc (-5000) m p := by
  have hl : m.log2 ≤ 5000 := by omega
  obtain ⟨M, E, r1, M0, M1, E0, E1, P1⟩ := dbl m p h0 hlo hhi
  have hv : sc (-5000) M E = sc (-5000) m p := by
    obtain ⟨q1, q2⟩ := P1 k f (-5000) hk (by omega) (by omega) (by omega) hf (by omega)
    rw [he] at q1 q2
    exact Nat.le_antisymm (q2 (Nat.le_refl _)) (q1 (Nat.le_refl _))
  cases s
  · exact ⟨M, E, r1, E0, hv⟩
  · refine ⟨M, E, ?_, E0, hv⟩
    rw [dnearest_true]
    exact dread_true (dnearest_le m p) r1
theorem log2_24 {m : Nat} (h0 : 0 < m) (h : m < 16777216) : m.log2 < 24 := (Nat.log2_lt (by omega)).2 h
/-- A finite real with 53 digits. -/
theorem widen_word (x : Nat) (h : rg x < 2139095040) : ∃ b M E, floatToFloatBits .f32 x .f64 = some b ∧ Ieee.double.read b = .number (sgn x) M E ∧ -1074 ≤ E ∧ sc (-5000) M E = sc (-5000) (pm (rg x)) (pe (rg x)) := by
  have hrd := read_num h
  have hm := pm_lt (rg x)
  have he := pe_ge (rg x)
  have he2 := pe_le (rg x) h
  by_cases h0 : pm (rg x) = 0
  · have hz := dzero (sgn x) (pe (rg x))
    refine ⟨_, 0, -1074, widen_num hrd ?_, ?_, by omega, ?_⟩
    · show (Ieee.double.read (Ieee.double.nearest (sgn x) (pm (rg x)) (pe (rg x)))).isInfinity = false
      rw [h0, hz]; rfl
    · show Ieee.double.read (Ieee.double.nearest (sgn x) (pm (rg x)) (pe (rg x))) = _
      rw [h0]; exact hz
    · rw [h0]; unfold sc; rw [Nat.zero_mul, Nat.zero_mul]
  · have hl := log2_24 (show 0 < pm (rg x) by omega) hm
    obtain ⟨M, E, r1, r2, r3⟩ := dnum (sgn x) (pm (rg x)) (pe (rg x)) (by omega) (by omega) (by omega) (pm (rg x)) (pe (rg x)) (by omega) (by omega) (by omega) rfl
    refine ⟨_, M, E, widen_num hrd ?_, r1, r2, r3⟩
    show (Ieee.double.read (Ieee.double.nearest (sgn x) (pm (rg x)) (pe (rg x)))).isInfinity = false
    rw [r1]; rfl
/-- The whole number that a finite word is cut to. -/
def cutN (way : Toward) (x : Nat) : Nat := way.cut (sgn x) (pm (rg x) <<< (pe (rg x)).toNat) (-pe (rg x)).toNat
/-- Every word, cut. -/
def rndV (way : Toward) (x : Nat) : Nat := if nanW x then 2143289344 else if rg x = 2139095040 then x else wd (sgn x) (Ieee.single.nearest false (cutN way x) 0)
theorem cutN_big (way : Toward) (x : Nat) (h : 0 ≤ pe (rg x)) : cutN way x = pm (rg x) * 2 ^ (pe (rg x)).toNat := by
  unfold cutN
  have e1 : (-pe (rg x)).toNat = 0 := by omega
  rw [cut_way, e1, Nat.pow_zero, Nat.div_one, Nat.shiftLeft_eq]
  have : moreW way (sgn x) (pm (rg x) * 2 ^ (pe (rg x)).toNat) 1 = false := by
    unfold moreW
    rw [Nat.mod_one]
    cases way <;> simp
  rw [this]; rfl
theorem cutN_small (way : Toward) (x : Nat) (h : pe (rg x) < 0) : cutN way x ≤ 16777216 := by
  unfold cutN
  have hm := pm_lt (rg x)
  have e1 : (pe (rg x)).toNat = 0 := by omega
  rw [cut_way, e1, Nat.shiftLeft_eq, Nat.pow_zero, Nat.mul_one]
  have h1 : pm (rg x) / 2 ^ (-pe (rg x)).toNat ≤ pm (rg x) := Nat.div_le_self _ _
  have h2 : (moreW way (sgn x) (pm (rg x)) (2 ^ (-pe (rg x)).toNat)).toNat ≤ 1 := by cases moreW way (sgn x) (pm (rg x)) (2 ^ (-pe (rg x)).toNat) <;> decide
  omega
theorem near_cut_lt (way : Toward) (x : Nat) (h : rg x < 2139095040) : Ieee.single.nearest false (cutN way x) 0 < 2139095040 := by
  by_cases h0 : cutN way x = 0
  · rw [h0, nearest_zero]; decide
  · by_cases hp : 0 ≤ pe (rg x)
    · have e : sc (-600) (cutN way x) 0 = sc (-600) (pm (rg x)) (pe (rg x)) := by
        rw [cutN_big way x hp, sc_mul (-600) (pm (rg x)) _ 0 (by decide)]; congr 1; omega
      rw [← nearest_sc (cutN way x) 0 (by decide), e, nearest_sc _ _ (by omega), nearest_self _ h]
      exact h
    · have h1 := cutN_small way x (by omega)
      have h2 : (cutN way x).log2 < 25 := (Nat.log2_lt h0).2 (by
        have : (2 : Nat) ^ 25 = 33554432 := by decide
        omega)
      exact single_small _ 0 (by omega) (by decide) (by omega)
theorem narrow_word {b M : Nat} {s : Bool} {E : Int} {N : Nat} (h : Ieee.double.read b = .number s M E) (hE : -1074 ≤ E) (hv : sc (-5000) M E = sc (-5000) N 0) (hN : Ieee.single.nearest false N 0 < 2139095040) :
    floatToFloatBits .f64 b .f32 = some (wd s (Ieee.single.nearest false N 0)) := by
  have e : Ieee.single.nearest false M E = Ieee.single.nearest false N 0 := by
    rw [← nearest_scB (-5000) (by decide) M E (by omega), hv, nearest_scB (-5000) (by decide) N 0 (by decide)]
  have e2 : Ieee.single.write (.number s M E) = wd s (Ieee.single.nearest false N 0) := by
    show Ieee.single.nearest s M E = _
    rw [nearest_neg, e]
  rw [narrow_num h]
  · rw [e2]
  · rw [e2]
    have hr : rg (wd s (Ieee.single.nearest false N 0)) = Ieee.single.nearest false N 0 := rg_wd _ _ (by omega)
    rw [read_num (by rw [hr]; exact hN)]; rfl
/-- From the word to the word: widened, made whole, narrowed. -/
theorem round_word (way : Toward) (x : Nat) (h : rg x < 2139095040) : ∃ b M E b2, floatToFloatBits .f32 x .f64 = some b ∧ Ieee.double.read b = .number (sgn x) M E ∧ Ieee.double.write ((Datum.number (sgn x) M E).integral way) = b2 ∧ floatToFloatBits .f64 b2 .f32 = some (wd (sgn x) (Ieee.single.nearest false (cutN way x) 0)) := by
  obtain ⟨b, M, E, h1, h2, h3, h4⟩ := widen_word x h
  have hN : way.cut (sgn x) (M <<< E.toNat) (-E).toNat = cutN way x := by
    unfold cutN
    rw [cut_base way (sgn x) M E (-5000) (by omega) (by decide), cut_base way (sgn x) (pm (rg x)) (pe (rg x)) (-5000) (by have := pe_ge (rg x); omega) (by decide), h4]
  refine ⟨b, M, E, _, h1, h2, rfl, ?_⟩
  show floatToFloatBits .f64 (Ieee.double.nearest (sgn x) (way.cut (sgn x) (M <<< E.toNat) (-E).toNat) 0) .f32 = _
  rw [hN]
  have hlt := near_cut_lt way x h
  by_cases h0 : cutN way x = 0
  · rw [h0]
    refine narrow_word (dzero (sgn x) 0) (by decide) ?_ (by rw [nearest_zero]; decide)
    unfold sc; rw [Nat.zero_mul, Nat.zero_mul]
  · have hm := pm_lt (rg x)
    have he2 := pe_le (rg x) h
    by_cases hp : 0 ≤ pe (rg x)
    · have e : sc (-5000) (pm (rg x)) (pe (rg x)) = sc (-5000) (cutN way x) 0 := by
        rw [cutN_big way x hp, sc_mul (-5000) (pm (rg x)) _ 0 (by decide)]; congr 1; omega
      have hpm : 0 < pm (rg x) := by
        apply Nat.pos_of_ne_zero
        intro hz
        rw [cutN_big way x hp, hz, Nat.zero_mul] at h0
        exact h0 rfl
      have hl : (cutN way x).log2 = (pm (rg x)).log2 + (pe (rg x)).toNat := by rw [cutN_big way x hp, log2_mul _ _ hpm]
      have hl2 := log2_24 hpm hm
      obtain ⟨M2, E2, r1, r2, r3⟩ := dnum (sgn x) (cutN way x) 0 (by omega) (by omega) (by omega) (pm (rg x)) (pe (rg x)) (by omega) (by omega) (by decide) e
      exact narrow_word r1 r2 r3 hlt
    · have hs := cutN_small way x (by omega)
      have hl2 : (cutN way x).log2 < 25 := (Nat.log2_lt h0).2 (by
        have : (2 : Nat) ^ 25 = 33554432 := by decide
        omega)
      obtain ⟨M2, E2, r1, r2, r3⟩ := dnum (sgn x) (cutN way x) 0 (by omega) (by omega) (by omega) (cutN way x) 0 (by omega) (by omega) (by decide) rfl
      exact narrow_word r1 r2 r3 hlt
end Go.Proofs.Ytndhlgbpfkidbaa.n03

