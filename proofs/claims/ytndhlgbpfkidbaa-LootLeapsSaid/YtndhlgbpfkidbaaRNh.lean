/-
  Reals: from chapter 3's Nh, what is needed here.
-/
import Derived.Test.YtndhlgbpfkidbaaRNg
namespace Go.Proofs.Ytndhlgbpfkidbaa.n03
open Go.RowKit Go.K Go.R
open Ieee
set_option linter.unusedVariables false
set_option linter.unusedSimpArgs false
/-- What a word stands for, without its sign, in units of 2 ^ -600. -/
def mV (x : Nat) : Nat := sc (-600) (pm (rg x)) (pe (rg x))
def upV (x : Nat) : Nat := if sgn x then 0 else mV x
def dnV (x : Nat) : Nat := if sgn x then mV x else 0
/-- A difference, rounded. -/
def nearD (u d : Nat) (z : Bool) : Nat := if d < u then Ieee.single.nearest false (u - d) (-600) else if u < d then wd true (Ieee.single.nearest false (d - u) (-600)) else wd z 0
theorem signed_eq (s : Bool) (m k : Nat) : Ieee.signed s m k = if s then -((m * 2 ^ k : Nat) : Int) else ((m * 2 ^ k : Nat) : Int) := by
  unfold Ieee.signed
  rw [Nat.shiftLeft_eq]
theorem opW_nearD (t : Int) (K u d : Nat) (z : Bool) (base : Int) (hb : -600 ≤ base) (hK : K = 2 ^ (base - -600).toNat) (h : t * (K : Int) = (u : Int) - (d : Int)) :
    opW (some (Ieee.single.write (.number (if t = 0 then z else decide (t < 0)) t.natAbs base))) = nearD u d z := by
  have hKp : 0 < K := by rw [hK]; exact Nat.two_pow_pos _
  have hsc : ∀ m : Nat, sc (-600) m base = m * K := fun m => by unfold sc; rw [hK]
  show opW (some (Ieee.single.nearest _ t.natAbs base)) = _
  rw [opW_near, ← nearest_sc _ base hb, hsc]
  unfold nearD
  rcases Int.lt_trichotomy t 0 with h1 | h1 | h1
  · have h2 : t * (K : Int) < 0 := Int.mul_neg_of_neg_of_pos h1 (by omega)
    have h3 : t.natAbs * K = d - u := by
      have : ((t.natAbs * K : Nat) : Int) = -(t * (K : Int)) := by rw [Int.natCast_mul, Int.ofNat_natAbs_of_nonpos (by omega), Int.neg_mul]
      omega
    rw [if_neg (by omega), if_neg (by omega), if_pos (by omega), h3, decide_eq_true h1]
  · subst h1
    have h3 : (0 : Int).natAbs * K = 0 := by simp
    rw [Int.zero_mul] at h
    rw [if_pos rfl, if_neg (by omega), if_neg (by omega), h3, nearest_zero]
  · have h2 : 0 < t * (K : Int) := Int.mul_pos h1 (by omega)
    have h3 : t.natAbs * K = u - d := by
      have : ((t.natAbs * K : Nat) : Int) = t * (K : Int) := by rw [Int.natCast_mul, Int.natAbs_of_nonneg (by omega)]
      omega
    rw [if_neg (by omega), if_pos (by omega), h3, decide_eq_false (by omega), wd_false]
theorem add_num {x y : Nat} (h : rg x < 2139095040) (h2 : rg y < 2139095040) : opW (Ieee.single.add x y) = nearD (upV x + upV y) (dnV x + dnV y) (sgn x && sgn y) := by
  unfold Format.add
  rw [read_num h, read_num h2]
  have hi := pe_ge (rg x)
  have hj := pe_ge (rg y)
  have ex : mV x = pm (rg x) * 2 ^ (pe (rg x) - min (pe (rg x)) (pe (rg y))).toNat * 2 ^ (min (pe (rg x)) (pe (rg y)) - -600).toNat := by
    unfold mV
    rw [sc_up (-600) (pm (rg x)) (min (pe (rg x)) (pe (rg y))) (pe (rg x)) (by omega) (by omega)]; rfl
  have ey : mV y = pm (rg y) * 2 ^ (pe (rg y) - min (pe (rg x)) (pe (rg y))).toNat * 2 ^ (min (pe (rg x)) (pe (rg y)) - -600).toNat := by
    unfold mV
    rw [sc_up (-600) (pm (rg y)) (min (pe (rg x)) (pe (rg y))) (pe (rg y)) (by omega) (by omega)]; rfl
  refine opW_nearD _ (2 ^ (min (pe (rg x)) (pe (rg y)) - -600).toNat) _ _ (sgn x && sgn y) (min (pe (rg x)) (pe (rg y))) (by omega) rfl ?_
  rw [signed_eq, signed_eq]
  unfold upV dnV
  rw [ex, ey]
  generalize pm (rg x) * 2 ^ (pe (rg x) - min (pe (rg x)) (pe (rg y))).toNat = a
  generalize pm (rg y) * 2 ^ (pe (rg y) - min (pe (rg x)) (pe (rg y))).toNat = b
  generalize 2 ^ (min (pe (rg x)) (pe (rg y)) - -600).toNat = K
  cases sgn x <;> cases sgn y <;> simp only [Bool.false_eq_true, if_true, if_false, Int.add_mul, Int.neg_mul, ← Int.natCast_mul] <;> omega
theorem nanW_rg (x : Nat) : nanW x = decide (2139095040 < rg x) := rfl
end Go.Proofs.Ytndhlgbpfkidbaa.n03

