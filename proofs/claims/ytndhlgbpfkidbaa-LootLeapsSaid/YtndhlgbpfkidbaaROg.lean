/-
  Reals: from chapter 3's Og, what is needed here.
-/
import Derived.Test.YtndhlgbpfkidbaaROf
namespace Go.Proofs.Ytndhlgbpfkidbaa.n03
open Go.RowKit Go.K Go.R
open Ieee (Format Datum Toward)
set_option linter.unusedVariables false
set_option linter.unusedSimpArgs false
/-- Where a finite word stands. -/
def key (x : Nat) : Int := if sgn x then -(rg x : Int) else (rg x : Int)
theorem mV_W (x : Nat) : mV x = W (-600) (rg x) := rfl
theorem mV_iff (x y : Nat) : mV x < mV y ↔ rg x < rg y := by
  rw [mV_W, mV_W]
  constructor
  · intro h
    apply Nat.lt_of_not_le
    intro h2
    exact absurd (W_mono (-600) (by decide) h2) (Nat.not_le.2 h)
  · intro h
    exact Nat.lt_of_lt_of_le (W_step (-600) (by decide) (rg x)) (W_mono (-600) (by decide) h)
theorem cmp_congr {a b c d : Int} (h1 : a < b ↔ c < d) (h2 : a = b ↔ c = d) : compare a b = compare c d := by
  show compareOfLessAndEq a b = compareOfLessAndEq c d
  unfold compareOfLessAndEq
  simp only [h1, h2]
theorem signed_scale (a b K : Nat) (hK : 0 < K) (s t : Bool) (p q : Nat) (hp : p = a * K) (hq : q = b * K) :
    compare (if s then -(a : Int) else (a : Int)) (if t then -(b : Int) else (b : Int)) = compare (if s then -(p : Int) else (p : Int)) (if t then -(q : Int) else (q : Int)) := by
  have h1 : a < b ↔ p < q := by rw [hp, hq]; exact (Nat.mul_lt_mul_right hK).symm
  have h2 : b < a ↔ q < p := by rw [hp, hq]; exact (Nat.mul_lt_mul_right hK).symm
  have h3 : a = 0 ↔ p = 0 := by rw [hp]; constructor <;> intro h; rw [h, Nat.zero_mul]; exact (Nat.mul_eq_zero.1 h).resolve_right (by omega)
  have h4 : b = 0 ↔ q = 0 := by rw [hq]; constructor <;> intro h; rw [h, Nat.zero_mul]; exact (Nat.mul_eq_zero.1 h).resolve_right (by omega)
  refine cmp_congr ?_ ?_ <;> cases s <;> cases t <;> simp only [Bool.false_eq_true, if_true, if_false] <;> omega
theorem fin_order {x y : Nat} (hx : rg x < 2139095040) (hy : rg y < 2139095040) : FloatKind.f32.format.order x y = some (compare (key x) (key y)) := by
  show ((Ieee.single.read x).order (Ieee.single.read y)) = _
  rw [read_num hx, read_num hy]
  have hi := pe_ge (rg x)
  have hj := pe_ge (rg y)
  have ex : mV x = pm (rg x) * 2 ^ (pe (rg x) - min (pe (rg x)) (pe (rg y))).toNat * 2 ^ (min (pe (rg x)) (pe (rg y)) - -600).toNat := by
    unfold mV
    rw [sc_up (-600) (pm (rg x)) (min (pe (rg x)) (pe (rg y))) (pe (rg x)) (by omega) (by omega)]; rfl
  have ey : mV y = pm (rg y) * 2 ^ (pe (rg y) - min (pe (rg x)) (pe (rg y))).toNat * 2 ^ (min (pe (rg x)) (pe (rg y)) - -600).toNat := by
    unfold mV
    rw [sc_up (-600) (pm (rg y)) (min (pe (rg x)) (pe (rg y))) (pe (rg y)) (by omega) (by omega)]; rfl
  show some (compare (Ieee.signed _ _ _) (Ieee.signed _ _ _)) = _
  rw [signed_eq, signed_eq, signed_scale _ _ _ (Nat.two_pow_pos _) (sgn x) (sgn y) _ _ ex ey]
  congr 1
  have k1 := mV_iff x y
  have k2 := mV_iff y x
  have k3 : mV x = 0 ↔ rg x = 0 := by
    constructor
    · exact mV_zero
    · intro h; unfold mV sc; rw [h, pm_zero, Nat.zero_mul]
  have k4 : mV y = 0 ↔ rg y = 0 := by
    constructor
    · exact mV_zero
    · intro h; unfold mV sc; rw [h, pm_zero, Nat.zero_mul]
  generalize mV x = p at *
  generalize mV y = q at *
  unfold key
  refine cmp_congr ?_ ?_ <;> cases sgn x <;> cases sgn y <;> simp only [Bool.false_eq_true, if_true, if_false] <;> omega
theorem order_nan {x : Nat} (y : Nat) (h : nanW x = true) : FloatKind.f32.format.order x y = none := by
  obtain ⟨s, f, e⟩ := read_nan h
  show ((Ieee.single.read x).order (Ieee.single.read y)) = _
  rw [e]; rfl
theorem order_inf {x y : Nat} (h : rg x = 2139095040) (hy : rg y < 2139095040) : FloatKind.f32.format.order x y = some (if sgn x then .lt else .gt) := by
  show ((Ieee.single.read x).order (Ieee.single.read y)) = _
  rw [read_inf h, read_num hy]; rfl
/-- The whole part with its sign. -/
def ivV (x : Nat) : Int := if sgn x then -((wN (pm (rg x)) (pe (rg x)) : Nat) : Int) else ((wN (pm (rg x)) (pe (rg x)) : Nat) : Int)
theorem cut_zero (x : Nat) (h : pe (rg x) ≤ 40) : cutN .zero x = wN (pm (rg x)) (pe (rg x)) := by
  by_cases h0 : 0 ≤ pe (rg x)
  · rw [cutN_big .zero x h0]
    unfold wN
    rw [if_pos h0, if_neg (by omega)]
  · rw [cut_adj .zero x (by omega)]; rfl
theorem to_int {x : Nat} (k : IntKind) (hx : rg x < 2139095040) (h : pe (rg x) ≤ 40) (h1 : k.min ≤ ivV x) (h2 : ivV x ≤ k.max) : floatToIntVal .f32 x k = some (ivV x) := by
  have hd : FloatKind.f32.decode x = .number (sgn x) (pm (rg x)) (pe (rg x)) := read_num hx
  have ht : (FloatKind.f32.decode x).toInt .zero = some (ivV x) := by
    rw [hd]
    show some (Ieee.signed (sgn x) (cutN .zero x) 0) = _
    rw [cut_zero x h, signed_eq, Nat.pow_zero, Nat.mul_one]; rfl
  unfold floatToIntVal
  rw [ht]
  dsimp only
  rw [if_pos ⟨h1, h2⟩]
theorem wN_le (m : Nat) (e : Int) (hm : m < 16777216) (t : Nat) (h : e ≤ t) : wN m e < 16777216 * 2 ^ t ∨ 40 < e := by
  unfold wN
  by_cases h0 : 0 ≤ e
  · rw [if_pos h0]
    by_cases h1 : 40 < e
    · exact .inr h1
    · left
      rw [if_neg h1]
      have h2 : (2 : Nat) ^ e.toNat ≤ 2 ^ t := Nat.pow_le_pow_right (by decide) (by omega)
      calc m * 2 ^ e.toNat ≤ m * 2 ^ t := Nat.mul_le_mul_left _ h2
        _ < 16777216 * 2 ^ t := Nat.mul_lt_mul_of_pos_right hm (Nat.two_pow_pos _)
  · left
    rw [if_neg h0]
    have h3 : m * 1 ≤ m * 2 ^ t := Nat.mul_le_mul_left _ (Nat.two_pow_pos _)
    have h4 : m * 2 ^ t < 16777216 * 2 ^ t := Nat.mul_lt_mul_of_pos_right hm (Nat.two_pow_pos _)
    split
    · omega
    · have := Nat.div_le_self m (2 ^ (-e).toNat)
      omega
theorem pe_of {r t : Nat} (h : r < (t + 151) * 8388608) : pe r ≤ (t : Int) := by
  unfold pe
  split
  · omega
  · have : r / 8388608 < t + 151 := by omega
    omega
end Go.Proofs.Ytndhlgbpfkidbaa.n03

