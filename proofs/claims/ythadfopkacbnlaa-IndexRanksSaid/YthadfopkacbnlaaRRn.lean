/-
  Reals: from chapter 3's Rn, what is needed here.
-/
import Derived.Test.YthadfopkacbnlaaRBa
import Ieee.Arith
namespace Go.R
open Ieee
set_option linter.unusedVariables false
set_option linter.unusedSimpArgs false

/-- A finite rung's whole number and its place. -/
def pm (r : Nat) : Nat := if r < 8388608 then r else r % 8388608 + 8388608
def pe (r : Nat) : Int := if r < 8388608 then -149 else ((r / 8388608 : Nat) : Int) - 150
/-- 'm * 2 ^ e' in units of 2 ^ B. -/
def sc (B : Int) (m : Nat) (e : Int) : Nat := m * 2 ^ (e - B).toNat
def icmp (a b : Nat) : Int := if a < b then -1 else if b < a then 1 else 0

theorem pe_ge (r : Nat) : -149 ≤ pe r := by
  unfold pe; split
  · omega
  · have : 1 ≤ r / 8388608 := by omega
    omega
theorem pm_lt (r : Nat) : pm r < 16777216 := by unfold pm; split <;> omega
theorem pe_le (r : Nat) (h : r < 2139095040) : pe r ≤ 104 := by
  unfold pe; split
  · omega
  · have : r / 8388608 < 255 := by omega
    omega
theorem sc_mul (B : Int) (m k : Nat) (e : Int) (h : B ≤ e) : sc B (m * 2 ^ k) e = sc B m (e + k) := by
  unfold sc
  rw [Nat.mul_assoc, ← Nat.pow_add]
  congr 2
  omega
theorem sc_low (B C : Int) (m : Nat) (e : Int) (h1 : C ≤ B) (h2 : B ≤ e) : sc C m e = sc B m e * 2 ^ (B - C).toNat := by
  unfold sc
  rw [Nat.mul_assoc, ← Nat.pow_add]
  congr 2
  omega
theorem icmp_mul (a b k : Nat) (h : 0 < k) : icmp (a * k) (b * k) = icmp a b := by
  unfold icmp
  simp only [Nat.mul_lt_mul_right h]
theorem icmp_base {B C : Int} {m n : Nat} {e f : Int} (h1 : C ≤ B) (h2 : B ≤ e) (h3 : B ≤ f) : icmp (sc C m e) (sc C n f) = icmp (sc B m e) (sc B n f) := by
  rw [sc_low B C m e h1 h2, sc_low B C n f h1 h3, icmp_mul _ _ _ (Nat.two_pow_pos _)]
theorem icmp_ge {a b : Nat} : 0 ≤ icmp a b ↔ b ≤ a := by unfold icmp; split <;> (try split) <;> first | omega | (simp_all; done)
theorem icmp_gt {a b : Nat} : 0 < icmp a b ↔ b < a := by unfold icmp; split <;> (try split) <;> first | omega | (simp_all; done)
theorem icmp_eq {a b : Nat} : icmp a b = 0 ↔ a = b := by unfold icmp; split <;> (try split) <;> first | omega | (simp_all; done)

/-- What a rung stands for, in units of 2 ^ B. -/
def W (B : Int) (r : Nat) : Nat := sc B (pm r) (pe r)
/-- The cut to the nearest, even. -/
theorem cut_even (neg : Bool) (n drop : Nat) : Toward.even.cut neg n drop = n / 2 ^ drop + (decide (2 ^ drop < 2 * (n % 2 ^ drop)) || (2 ^ drop == 2 * (n % 2 ^ drop) && n / 2 ^ drop % 2 == 1)).toNat := by
  unfold Toward.cut
  simp only [Nat.one_shiftLeft]
  by_cases h : drop ≤ n.log2 + 2
  · rw [Nat.min_eq_left h]
  · rw [Nat.min_eq_right (by omega)]
    have h1 : n < 2 ^ (n.log2 + 1) := Nat.lt_log2_self
    have h2 : (2 : Nat) ^ (n.log2 + 1 + 1) ≤ 2 ^ drop := Nat.pow_le_pow_right (by omega) (by omega)
    have h3 : (2 : Nat) ^ (n.log2 + 2) = 2 * 2 ^ (n.log2 + 1) := by rw [Nat.pow_succ, Nat.mul_comm]
    have h4 : n < 2 ^ drop := by rw [Nat.pow_succ] at h2; omega
    have h5 : n < 2 ^ (n.log2 + 2) := by omega
    have h6 : 2 * n < 2 ^ drop := by rw [Nat.pow_succ] at h2; omega
    have h7 : 2 * n < 2 ^ (n.log2 + 2) := by omega
    rw [Nat.div_eq_of_lt h4, Nat.div_eq_of_lt h5, Nat.mod_eq_of_lt h4, Nat.mod_eq_of_lt h5]
    have b1 : decide (2 ^ drop < 2 * n) = false := by simp; omega
    have b2 : decide (2 ^ (n.log2 + 2) < 2 * n) = false := by simp; omega
    simp [b1, b2]
/-- One up from the middle on, of two the even one. -/
def more (X U : Nat) : Bool := decide (U < 2 * (X % U)) || (U == 2 * (X % U) && X / U % 2 == 1)
theorem cut_units (neg : Bool) (mag : Nat) (place last B : Int) (h1 : B ≤ place) (h2 : B ≤ last) :
    Toward.even.cut neg (mag <<< (place - last).toNat) (last - place).toNat = sc B mag place / 2 ^ (last - B).toNat + (more (sc B mag place) (2 ^ (last - B).toNat)).toNat := by
  rw [cut_even, Nat.shiftLeft_eq]
  unfold more sc
  by_cases h : last ≤ place
  · have e1 : (last - place).toNat = 0 := by omega
    have e2 : mag * 2 ^ (place - B).toNat = mag * 2 ^ (place - last).toNat * 2 ^ (last - B).toNat := by
      rw [Nat.mul_assoc, ← Nat.pow_add]; congr 2; omega
    rw [e1, e2, Nat.mul_div_cancel _ (Nat.two_pow_pos _), Nat.mul_mod_left]
    have := Nat.two_pow_pos (last - B).toNat
    have b1 : (2 ^ (last - B).toNat == 2 * 0) = false := by simp
    simp [Nat.mod_one, b1]
  · have e1 : (place - last).toNat = 0 := by omega
    have e2 : (last - B).toNat = (last - place).toNat + (place - B).toNat := by omega
    have hp := Nat.two_pow_pos (place - B).toNat
    rw [e1, e2, Nat.pow_add, Nat.pow_zero, Nat.mul_one, Nat.mul_div_mul_right _ _ hp, Nat.mul_mod_mul_right]
    generalize 2 ^ (last - place).toNat = g
    generalize 2 ^ (place - B).toNat = k at hp
    congr 2
    have t1 : decide (g < 2 * (mag % g)) = decide (g * k < 2 * (mag % g * k)) := by
      rw [← Nat.mul_assoc]; simp only [Nat.mul_lt_mul_right hp]
    have t2 : (g == 2 * (mag % g)) = (g * k == 2 * (mag % g * k)) := by
      rw [← Nat.mul_assoc, Bool.eq_iff_iff]; simp only [beq_iff_eq]
      exact ⟨fun h => by rw [← h], fun h => Nat.eq_of_mul_eq_mul_right hp h⟩
    rw [t1, t2]

theorem single_least : Ieee.single.leastPlace = -149 := by decide
theorem single_binade : Ieee.single.binade = 8388608 := by decide
theorem single_inf : Ieee.single.infRung = 2139095040 := by decide
end Go.R
