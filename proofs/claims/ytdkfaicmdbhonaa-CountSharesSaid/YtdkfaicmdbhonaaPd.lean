/-
  Layer 1, no program in sight: division of a number of 128 bits by one of 64, by two digits of 32 bits.
-/
import Derived.Test.YtdkfaicmdbhonaaGen
namespace Go.Words
set_option linter.unusedVariables false
/-- A digit that is not too little, and what is left of the upper part. -/
structure DigI (Y U d q r : Nat) : Prop where
  eq : q * (Y / 4294967296) + r = U
  hi : (U * 4294967296 + d) / Y ≤ q
theorem dig_low {Y U d : Nat} (hU : U < Y) (hd : d < 4294967296) : (U * 4294967296 + d) / Y < 4294967296 := by
  rw [Nat.div_lt_iff_lt_mul (by omega)]
  have : (U + 1) * 4294967296 ≤ Y * 4294967296 := Nat.mul_le_mul_right _ hU
  omega
theorem dig_start {Y U d : Nat} (hY : 9223372036854775808 ≤ Y) (hU : U < Y) (hd : d < 4294967296) : DigI Y U d (U / (Y / 4294967296)) (U % (Y / 4294967296)) := by
  constructor
  · rw [Nat.mul_comm]; exact Nat.div_add_mod _ _
  · have ha : 0 < Y / 4294967296 := by omega
    rw [Nat.le_div_iff_mul_le ha]
    have h1 : (U * 4294967296 + d) / Y * Y ≤ U * 4294967296 + d := Nat.div_mul_le_self _ _
    generalize (U * 4294967296 + d) / Y = Q at *
    have h2 : Q * Y = Q * (Y / 4294967296) * 4294967296 + Q * (Y % 4294967296) := by
      conv => lhs; rw [← Nat.div_add_mod Y 4294967296, Nat.mul_add, Nat.mul_comm 4294967296, ← Nat.mul_assoc]
    generalize Q * (Y / 4294967296) = A at *
    generalize Q * (Y % 4294967296) = B at *
    omega
theorem dig_top {Y U : Nat} (hY : 9223372036854775808 ≤ Y) (hY2 : Y < 18446744073709551616) (hU : U < Y) : U / (Y / 4294967296) ≤ 4294967297 ∧ U % (Y / 4294967296) < 4294967296 := by
  have ha : 0 < Y / 4294967296 := by omega
  constructor
  · have : U / (Y / 4294967296) < 4294967298 := by
      rw [Nat.div_lt_iff_lt_mul ha]
      omega
    omega
  · have := Nat.mod_lt U ha
    omega
theorem dig_eq {Y U d q r : Nat} (h : DigI Y U d q r) : q * Y + r * 4294967296 = U * 4294967296 + q * (Y % 4294967296) := by
  have h2 : q * Y = q * (Y / 4294967296) * 4294967296 + q * (Y % 4294967296) := by
    conv => lhs; rw [← Nat.div_add_mod Y 4294967296, Nat.mul_add, Nat.mul_comm 4294967296, ← Nat.mul_assoc]
  have h3 := h.eq
  generalize q * (Y / 4294967296) = A at *
  generalize q * (Y % 4294967296) = B at *
  omega
theorem dig_gt {Y U d q r : Nat} (h : DigI Y U d q r) (hU : U < Y) : (4294967296 * r + d < q * (Y % 4294967296)) ↔ (U * 4294967296 + d) / Y < q := by
  rw [Nat.div_lt_iff_lt_mul (by omega)]
  have h2 := dig_eq h
  generalize q * (Y % 4294967296) = B at *
  generalize q * Y = C at *
  omega
theorem dig_no {Y U d q r : Nat} (h : DigI Y U d q r) (hU : U < Y) (hn : ¬ 4294967296 * r + d < q * (Y % 4294967296)) : q = (U * 4294967296 + d) / Y := by
  have h1 : ¬ (U * 4294967296 + d) / Y < q := fun e => hn ((dig_gt h hU).2 e)
  have h2 := h.hi
  omega
theorem dig_step {Y U d q r : Nat} (h : DigI Y U d q r) (hU : U < Y) (hd : d < 4294967296) (hc : 4294967296 ≤ q ∨ 4294967296 * r + d < q * (Y % 4294967296)) : 0 < q ∧ DigI Y U d (q - 1) (r + Y / 4294967296) := by
  have hg : (U * 4294967296 + d) / Y < q := by
    rcases hc with hc | hc
    · exact Nat.lt_of_lt_of_le (dig_low hU hd) hc
    · exact (dig_gt h hU).1 hc
  have h1 := h.eq
  have hq : 0 < q := Nat.lt_of_le_of_lt (Nat.zero_le _) hg
  obtain ⟨p, rfl⟩ : ∃ p, q = p + 1 := ⟨q - 1, (Nat.sub_add_cancel hq).symm⟩
  refine ⟨hq, ?_, ?_⟩
  · rw [Nat.add_mul, Nat.one_mul] at h1
    rw [Nat.add_sub_cancel]
    generalize p * (Y / 4294967296) = A at *
    clear hg hc h
    omega
  · rw [Nat.add_sub_cancel]
    exact Nat.le_of_lt_succ hg
theorem dig_end {Y U d q r : Nat} (h : DigI Y U d q r) (hU : U < Y) (hq : q ≤ 4294967296) (hr : 4294967296 ≤ r) : q = (U * 4294967296 + d) / Y := by
  refine dig_no h hU ?_
  have h1 : q * (Y % 4294967296) ≤ 4294967296 * 4294967295 := Nat.mul_le_mul hq (by omega)
  have h2 : 4294967296 * 4294967296 ≤ 4294967296 * r := Nat.mul_le_mul_left _ hr
  omega
/-- Two digits, one behind the other. -/
theorem two_digits {Y U d0 d1 : Nat} (hY : 0 < Y) : (U * 18446744073709551616 + (d1 * 4294967296 + d0)) / Y = (U * 4294967296 + d1) / Y * 4294967296 + ((U * 4294967296 + d1) % Y * 4294967296 + d0) / Y ∧
    (U * 18446744073709551616 + (d1 * 4294967296 + d0)) % Y = ((U * 4294967296 + d1) % Y * 4294967296 + d0) % Y := by
  have h1 : U * 18446744073709551616 + (d1 * 4294967296 + d0) = Y * ((U * 4294967296 + d1) / Y * 4294967296) + ((U * 4294967296 + d1) % Y * 4294967296 + d0) := by
    have h := Nat.div_add_mod (U * 4294967296 + d1) Y
    generalize (U * 4294967296 + d1) / Y = Q at *
    generalize (U * 4294967296 + d1) % Y = R at *
    rw [← Nat.mul_assoc]
    generalize Y * Q = A at *
    omega
  constructor
  · rw [h1, Nat.add_comm, Nat.add_mul_div_left _ _ hY, Nat.add_comm]
  · rw [h1, Nat.add_comm, Nat.add_mul_mod_self_left]
/-- A common power of two goes out. -/
theorem shift_div (N y s : Nat) : N * 2 ^ s / (y * 2 ^ s) = N / y ∧ N * 2 ^ s % (y * 2 ^ s) / 2 ^ s = N % y := by
  have h2 : 0 < 2 ^ s := Nat.pow_pos (by omega)
  constructor
  · exact Nat.mul_div_mul_right _ _ h2
  · rw [Nat.mul_mod_mul_right, Nat.mul_div_cancel _ h2]
end Go.Words
