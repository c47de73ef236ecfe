/-
  Reals: from chapter 3's Pm, what is needed here.
-/
import Derived.Test.YtndhlgbpfkidbaaRPl
namespace Go.Proofs.Ytndhlgbpfkidbaa.n03
open Go.RowKit Go.K Go.R
open Ieee (Format Datum Toward)
set_option linter.unusedVariables false
set_option linter.unusedSimpArgs false
/-- The word of 53 digits K at the place c - 1074. -/
def dW (c K : Nat) : Nat := c * 4503599627370496 + K
theorem log2_53 {K : Nat} (h1 : 4503599627370496 ≤ K) (h2 : K < 9007199254740992) : K.log2 = 52 := by
  have a : K.log2 < 53 := (Nat.log2_lt (by omega)).2 (by rw [p53]; exact h2)
  have b : ¬ K.log2 < 52 := fun h => by
    have := (Nat.log2_lt (k := 52) (by omega)).1 h
    rw [p52] at this; omega
  omega
theorem more_whole (K U : Nat) (hU : 0 < U) : more (K * U) U = false := by
  unfold more
  rw [Nat.mul_mod_left]
  have : (U == 2 * 0) = false := by rw [beq_eq_false_iff_ne]; omega
  rw [this]; simp
/-- What can be written is written so. -/
theorem dexact (m c K : Nat) (p : Int) (h1 : 4503599627370496 ≤ K) (h2 : K < 9007199254740992) (hc : c < 1900) (hp : -5000 ≤ p) (he : sc (-5000) m p = sc (-5000) K ((c : Int) - 1074)) : Ieee.double.nearest false m p = dW c K := by
  have hl := log2_53 h1 h2
  have hm0 : 0 < m := by
    apply Nat.pos_of_ne_zero
    intro h
    have hp := Nat.two_pow_pos (((c : Int) - 1074) - -5000).toNat
    have : 0 < sc (-5000) K ((c : Int) - 1074) := Nat.mul_pos (by omega) hp
    rw [← he, h] at this
    unfold sc at this
    rw [Nat.zero_mul] at this
    exact absurd this (Nat.lt_irrefl _)
  have hlg : m.log2 + (p - -5000).toNat = 52 + (((c : Int) - 1074) - -5000).toNat := by
    rw [← log2_mul m _ hm0, ← hl, ← log2_mul K _ (by omega)]
    exact congrArg Nat.log2 he
  have hf : Ieee.double.fractionBits = 52 := rfl
  have hw : ∀ x, Ieee.double.word false x = x := fun x => rfl
  unfold Format.nearest
  rw [if_neg (by omega), double_least, double_binade, double_inf, hf]
  have hmx : max (p + (m.log2 : Int) - ((52 : Nat) : Int)) (-1074) = (c : Int) - 1074 := by omega
  rw [hmx]
  dsimp only
  rw [cut_units false m p ((c : Int) - 1074) (-5000) hp (by omega), he, hw]
  have e0 : sc (-5000) K ((c : Int) - 1074) = K * 2 ^ (((c : Int) - 1074) - -5000).toNat := rfl
  have hU := Nat.two_pow_pos (((c : Int) - 1074) - -5000).toNat
  rw [e0, Nat.mul_div_cancel _ hU, more_whole _ _ hU]
  have hct : (((c : Int) - 1074) - -1074).toNat = c := by omega
  rw [hct]
  have hle : c * 4503599627370496 + (K + false.toNat) ≤ 9218868437227405312 := by
    show c * 4503599627370496 + (K + 0) ≤ _
    omega
  rw [Nat.min_eq_left hle]; rfl
theorem dW_read (c K : Nat) (h1 : 4503599627370496 ≤ K) (h2 : K < 9007199254740992) (hc : c < 1900) : Ieee.double.read (dW c K) = .number false K ((c : Int) - 1074) := double_read c K h1 h2 (by omega)
theorem dW_le (c K : Nat) (h2 : K < 9007199254740992) (hc : c < 1900) : dW c K ≤ 9218868437227405312 := by unfold dW; omega
/-- With a sign. -/
def dS (s : Bool) (b : Nat) : Nat := if s then 9223372036854775808 + b else b
theorem dS_read (s : Bool) (c K : Nat) (h1 : 4503599627370496 ≤ K) (h2 : K < 9007199254740992) (hc : c < 1900) : Ieee.double.read (dS s (dW c K)) = .number s K ((c : Int) - 1074) := by
  cases s
  · exact dW_read c K h1 h2 hc
  · exact dread_true (dW_le c K h2 hc) (dW_read c K h1 h2 hc)
theorem dnear_sign (s : Bool) (m : Nat) (p : Int) : Ieee.double.nearest s m p = dS s (Ieee.double.nearest false m p) := by
  unfold dS
  cases s
  · rw [if_neg (by decide)]
  · rw [if_pos rfl]; exact dnearest_true m p
theorem one_read (s : Bool) : Ieee.double.read (dS s 4607182418800017408) = .number s 4503599627370496 (-52) := by cases s <;> decide
/-- Once, or minus once, is exact. -/
theorem dmul_one (s : Bool) (c K : Nat) (h1 : 4503599627370496 ≤ K) (h2 : K < 9007199254740992) (hc : c < 1900) : floatBits .mul .f64 (dS s 4607182418800017408) (dW c K) = some (dS s (dW c K)) := by
  have h1' := one_read s
  show ((Ieee.double.read (dS s 4607182418800017408)).product (Ieee.double.read (dW c K))).map Ieee.double.write = _
  rw [h1', dW_read c K h1 h2 hc]
  show some (Ieee.double.nearest (s ^^ false) (4503599627370496 * K) (-52 + ((c : Int) - 1074))) = _
  rw [Bool.xor_false, dnear_sign, dexact (4503599627370496 * K) c K (-52 + ((c : Int) - 1074)) h1 h2 hc (by omega)]
  have e : 4503599627370496 * K = K * 2 ^ 52 := by rw [p52, Nat.mul_comm]
  rw [e, sc_mul (-5000) K 52 _ (by omega)]
  congr 1; omega
/-- A whole number with 53 digits. -/
theorem dnat (m : Nat) (h0 : 0 < m) (hm : m < 33554432) : 4503599627370496 ≤ m * 2 ^ (52 - m.log2) ∧ m * 2 ^ (52 - m.log2) < 9007199254740992 ∧ m.log2 < 25 ∧ floatOfInt .f64 (m : Int) = dW (m.log2 + 1022) (m * 2 ^ (52 - m.log2)) := by
  have hl : m.log2 < 25 := (Nat.log2_lt (by omega)).2 (by
    have : (2 : Nat) ^ 25 = 33554432 := by decide
    omega)
  have a1 : 2 ^ m.log2 ≤ m := Nat.log2_self_le (by omega)
  have a2 : m < 2 ^ (m.log2 + 1) := Nat.lt_log2_self
  have hp := Nat.two_pow_pos (52 - m.log2)
  have b1 : 4503599627370496 ≤ m * 2 ^ (52 - m.log2) := by
    have : 2 ^ m.log2 * 2 ^ (52 - m.log2) ≤ m * 2 ^ (52 - m.log2) := Nat.mul_le_mul_right _ a1
    rw [← Nat.pow_add, show m.log2 + (52 - m.log2) = 52 by omega, p52] at this
    exact this
  have b2 : m * 2 ^ (52 - m.log2) < 9007199254740992 := by
    have : m * 2 ^ (52 - m.log2) < 2 ^ (m.log2 + 1) * 2 ^ (52 - m.log2) := Nat.mul_lt_mul_of_pos_right a2 hp
    rw [← Nat.pow_add, show m.log2 + 1 + (52 - m.log2) = 53 by omega, p53] at this
    exact this
  refine ⟨b1, b2, hl, ?_⟩
  show Ieee.double.nearest (decide ((m : Int) < 0)) ((m : Int)).natAbs 0 = _
  rw [decide_eq_false (by omega)]
  refine dexact m (m.log2 + 1022) _ 0 b1 b2 (by omega) (by decide) ?_
  have e9 : (((m.log2 + 1022 : Nat) : Int) - 1074) + ((52 - m.log2 : Nat) : Int) = 0 := by omega
  rw [sc_mul (-5000) m (52 - m.log2) _ (by omega), e9]
/-- Which of two that are not below zero is the greater one. -/
theorem dord_lt {x y m n : Nat} {i j : Int} (hx : Ieee.double.read x = .number false m i) (hy : Ieee.double.read y = .number false n j) (hi : -5000 ≤ i) (hj : -5000 ≤ j) (h : sc (-5000) m i < sc (-5000) n j) :
    FloatKind.f64.format.order x y = some .lt ∧ FloatKind.f64.format.order y x = some .gt := by
  have ex : sc (-5000) m i = m * 2 ^ (i - min i j).toNat * 2 ^ (min i j - -5000).toNat := by
    rw [sc_up (-5000) m (min i j) i (by omega) (by omega)]; rfl
  have ey : sc (-5000) n j = n * 2 ^ (j - min i j).toNat * 2 ^ (min i j - -5000).toNat := by
    rw [sc_up (-5000) n (min i j) j (by omega) (by omega)]; rfl
  rw [ex, ey] at h
  have h2 := Nat.lt_of_mul_lt_mul_right h
  have hm : min j i = min i j := by omega
  constructor
  · show ((Ieee.double.read x).order (Ieee.double.read y)) = _
    rw [hx, hy]
    show some (compare (Ieee.signed _ _ _) (Ieee.signed _ _ _)) = _
    rw [signed_eq, signed_eq]
    generalize m * 2 ^ (i - min i j).toNat = p at *
    generalize n * 2 ^ (j - min i j).toNat = q at *
    congr 1
    show compareOfLessAndEq (p : Int) (q : Int) = _
    unfold compareOfLessAndEq; rw [if_pos (by omega)]
  · show ((Ieee.double.read y).order (Ieee.double.read x)) = _
    rw [hx, hy]
    show some (compare (Ieee.signed _ _ _) (Ieee.signed _ _ _)) = _
    rw [signed_eq, signed_eq, hm]
    generalize m * 2 ^ (i - min i j).toNat = p at *
    generalize n * 2 ^ (j - min i j).toNat = q at *
    congr 1
    show compareOfLessAndEq (q : Int) (p : Int) = _
    unfold compareOfLessAndEq; rw [if_neg (by omega), if_neg (by omega)]
theorem dord_self {x m : Nat} {i : Int} (hx : Ieee.double.read x = .number false m i) : FloatKind.f64.format.order x x = some .eq := by
  show ((Ieee.double.read x).order (Ieee.double.read x)) = _
  rw [hx]
  show some (compare (Ieee.signed _ _ _) (Ieee.signed _ _ _)) = _
  congr 1
  show compareOfLessAndEq _ _ = _
  unfold compareOfLessAndEq; rw [if_neg (by omega), if_pos rfl]
theorem sc_less (K M : Nat) (a b : Int) (hK : K ≤ M) (h0 : 0 < M) (ha : -5000 ≤ a) (h : a < b) : sc (-5000) K a < sc (-5000) M b := by
  unfold sc
  have h1 : K * 2 ^ (a - -5000).toNat ≤ M * 2 ^ (a - -5000).toNat := Nat.mul_le_mul_right _ hK
  have h2 : M * 2 ^ (a - -5000).toNat < M * 2 ^ (b - -5000).toNat := Nat.mul_lt_mul_of_pos_left (Nat.pow_lt_pow_right (by decide) (by omega)) h0
  exact Nat.lt_of_le_of_lt h1 h2
/-- Where words stand among a few. -/
theorem dW_order (c K : Nat) (h1 : 4503599627370496 ≤ K) (h2 : K < 9007199254740992) (hc : c < 1900) (hc0 : 0 < c) :
    FloatKind.f64.format.order (dW c K) 0 = some .gt ∧ FloatKind.f64.format.order (dW c K) 9218868437227405311 = some .lt ∧ FloatKind.f64.format.order (dW c K) 4503599627370496 = some .gt ∧ FloatKind.f64.format.order (dW c K) (dW c K) = some .eq := by
  have hr := dW_read c K h1 h2 hc
  have r0 : Ieee.double.read 0 = .number false 0 (-1074) := by decide
  have r1 : Ieee.double.read 9218868437227405311 = .number false 9007199254740991 971 := by decide
  have r2 : Ieee.double.read 4503599627370496 = .number false 4503599627370496 (-1074) := by decide
  refine ⟨(dord_lt r0 hr (by decide) (by omega) ?_).2, (dord_lt hr r1 (by omega) (by decide) ?_).1, (dord_lt r2 hr (by decide) (by omega) ?_).2, dord_self hr⟩
  · exact sc_less 0 K _ _ (Nat.zero_le _) (by omega) (by decide) (by omega)
  · exact sc_less K _ _ _ (by omega) (by decide) (by omega) (by omega)
  · exact sc_less _ K _ _ h1 (by omega) (by decide) (by omega)
/-- Back to 24 digits. -/
theorem narrow_gen {b M N : Nat} {s : Bool} {E p : Int} (h : Ieee.double.read b = .number s M E) (hE : -1074 ≤ E) (hp : -5000 ≤ p) (hv : sc (-5000) M E = sc (-5000) N p) (hN : Ieee.single.nearest false N p < 2139095040) :
    floatToFloatBits .f64 b .f32 = some (wd s (Ieee.single.nearest false N p)) := by
  have e : Ieee.single.nearest false M E = Ieee.single.nearest false N p := by
    rw [← nearest_scB (-5000) (by decide) M E (by omega), hv, nearest_scB (-5000) (by decide) N p hp]
  have e2 : Ieee.single.write (.number s M E) = wd s (Ieee.single.nearest false N p) := by
    show Ieee.single.nearest s M E = _
    rw [nearest_neg, e]
  rw [narrow_num h]
  · rw [e2]
  · rw [e2]
    have hr : rg (wd s (Ieee.single.nearest false N p)) = Ieee.single.nearest false N p := rg_wd _ _ (by omega)
    rw [read_num (by rw [hr]; exact hN)]; rfl
end Go.Proofs.Ytndhlgbpfkidbaa.n03

