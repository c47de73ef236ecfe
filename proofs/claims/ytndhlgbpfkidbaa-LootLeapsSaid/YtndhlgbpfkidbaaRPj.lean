/-
  Reals: from chapter 3's Pj, what is needed here.
-/
import Derived.Test.YtndhlgbpfkidbaaRPi
namespace Go.Proofs.Ytndhlgbpfkidbaa.n03
open Go.RowKit Go.K Go.R
set_option linter.unusedVariables false
set_option linter.unusedSimpArgs false
/-- What limbs stand for, in units of 2 ^ -149. -/
def SL : List Int → Int | [] => 0 | a :: l => a + 4294967296 * SL l
theorem SL_set : ∀ (L : List Int) (k : Nat) (v : Int), k < L.length → SL (L.set k v) = SL L + (v - L.getD k 0) * 4294967296 ^ k
  | [], k, v, h => by cases h
  | a :: l, 0, v, h => by
    show v + 4294967296 * SL l = a + 4294967296 * SL l + (v - a) * 4294967296 ^ 0
    rw [Int.pow_zero]; omega
  | a :: l, k + 1, v, h => by
    have ih := SL_set l k v (by simpa using h)
    show a + 4294967296 * SL (l.set k v) = a + 4294967296 * SL l + (v - l.getD k 0) * 4294967296 ^ (k + 1)
    rw [ih, Int.pow_succ, Int.mul_add]
    generalize (v - l.getD k 0) = d
    generalize (4294967296 : Int) ^ k = P
    have e : d * (P * 4294967296) = 4294967296 * (d * P) := by rw [Int.mul_comm P, Int.mul_left_comm]
    rw [e]; omega
theorem SL_two (L : List Int) (k : Nat) (b a : Int) (h : k + 1 < L.length) : SL ((L.set (k + 1) b).set k a) = SL L + (b - L.getD (k + 1) 0) * 4294967296 ^ (k + 1) + (a - L.getD k 0) * 4294967296 ^ k := by
  rw [SL_set _ _ _ (by rw [List.length_set]; omega), SL_set _ _ _ h, getD_set _ _ _ _ h, if_neg (by omega)]
theorem SL_carry (L : List Int) (hl : L.length = 11) : ∀ k, k ≤ 10 → SL (carryL k L) = SL L
  | 0, _ => rfl
  | k + 1, hk => by
    have ih := SL_carry L hl k (by omega)
    have hlen : (carryL k L).length = 11 := by rw [carryL_len, hl]
    unfold carryL
    rw [SL_two _ _ _ _ (by omega), ih]
    generalize (carryL k L).getD k 0 = a
    generalize (carryL k L).getD (k + 1) 0 = b
    have e1 : b + a / 4294967296 - b = a / 4294967296 := by omega
    have e2 : a % 4294967296 - a = -(4294967296 * (a / 4294967296)) := by omega
    rw [e1, e2, Int.pow_succ]
    generalize (4294967296 : Int) ^ k = P
    generalize a / 4294967296 = d
    have e3 : d * (P * 4294967296) = 4294967296 * (d * P) := by rw [Int.mul_comm P, Int.mul_left_comm]
    have e4 : -(4294967296 * d) * P = -(4294967296 * (d * P)) := by rw [Int.neg_mul, Int.mul_assoc]
    rw [e3, e4]; omega
theorem vW_split (x : Nat) : vW x * 4294967296 ^ (shW x / 32) = pm (rg x) * 2 ^ shW x := by
  unfold vW
  have e : (4294967296 : Nat) = 2 ^ 32 := by decide
  rw [e, ← Nat.pow_mul, Nat.mul_assoc, ← Nat.pow_add]
  congr 2
  omega
/-- A word with its sign, in units of 2 ^ -149. -/
def sW (x : Nat) : Int := if sgn x then -((pm (rg x) * 2 ^ shW x : Nat) : Int) else ((pm (rg x) * 2 ^ shW x : Nat) : Int)
theorem SL_add (L : List Int) (x : Nat) (hl : L.length = 11) (hs : shW x < 255) : SL (addL L x) = SL L + sW x := by
  unfold addL
  rw [SL_set _ _ _ (by rw [List.length_set]; omega), SL_set _ _ _ (by omega)]
  have e1 : L.getD (shW x / 32) 0 + loW x - L.getD (shW x / 32) 0 = loW x := by omega
  have e2 : (L.set (shW x / 32) (L.getD (shW x / 32) 0 + loW x)).getD (shW x / 32 + 1) 0 + hiW x - (L.set (shW x / 32) (L.getD (shW x / 32) 0 + loW x)).getD (shW x / 32 + 1) 0 = hiW x := by omega
  rw [e1, e2, Int.pow_succ]
  have hv := vW_split x
  have hdm := Nat.div_add_mod (vW x) 4294967296
  have hP : ((4294967296 : Int) ^ (shW x / 32)) = ((4294967296 ^ (shW x / 32) : Nat) : Int) := by simp
  rw [hP]
  unfold sW
  rw [← hv]
  have e3 : loW x + hiW x * 4294967296 = if sgn x then -((vW x : Nat) : Int) else ((vW x : Nat) : Int) := by
    unfold loW hiW
    split <;> omega
  have e4 : SL L + loW x * ((4294967296 ^ (shW x / 32) : Nat) : Int) + hiW x * (((4294967296 ^ (shW x / 32) : Nat) : Int) * 4294967296) = SL L + (loW x + hiW x * 4294967296) * ((4294967296 ^ (shW x / 32) : Nat) : Int) := by
    rw [Int.add_mul, Int.add_assoc, Int.mul_assoc, Int.mul_comm 4294967296]
  rw [e4, e3]
  congr 1
  split
  · rw [Int.neg_mul, Int.natCast_mul]
  · rw [Int.natCast_mul]
end Go.Proofs.Ytndhlgbpfkidbaa.n03

