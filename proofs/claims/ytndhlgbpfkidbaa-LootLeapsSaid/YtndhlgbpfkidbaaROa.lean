/-
  Reals: from chapter 3's Oa, what is needed here.
-/
import Derived.Test.YtndhlgbpfkidbaaRNo
namespace Go.Proofs.Ytndhlgbpfkidbaa.n03
open Go.RowKit Go.K Go.R
open Ieee (Format Datum Toward)
set_option linter.unusedVariables false
set_option linter.unusedSimpArgs false
/-- One more, by the way of rounding. -/
def moreW (way : Toward) (neg : Bool) (X U : Nat) : Bool := match way with
  | .even => decide (U < 2 * (X % U)) || (U == 2 * (X % U) && X / U % 2 == 1)
  | .down => neg && X % U != 0
  | .up => !neg && X % U != 0
  | .zero => false
theorem cut_way (way : Toward) (neg : Bool) (n drop : Nat) : way.cut neg n drop = n / 2 ^ drop + (moreW way neg n (2 ^ drop)).toNat := by
  cases way
  · rw [cut_even]; rfl
  all_goals
    unfold Toward.cut moreW
    simp only [Nat.one_shiftLeft]
    by_cases h : drop ≤ n.log2 + 2
    · rw [Nat.min_eq_left h]
    · rw [Nat.min_eq_right (by omega)]
      have h1 : n < 2 ^ (n.log2 + 1) := Nat.lt_log2_self
      have h2 : (2 : Nat) ^ (n.log2 + 2) ≤ 2 ^ drop := Nat.pow_le_pow_right (by omega) (by omega)
      have h3 : (2 : Nat) ^ (n.log2 + 1) ≤ 2 ^ (n.log2 + 2) := Nat.pow_le_pow_right (by omega) (by omega)
      first | rw [Nat.div_eq_of_lt (show n < 2 ^ drop by omega), Nat.div_eq_of_lt (show n < 2 ^ (n.log2 + 2) by omega), Nat.mod_eq_of_lt (show n < 2 ^ drop by omega), Nat.mod_eq_of_lt (show n < 2 ^ (n.log2 + 2) by omega)] | rw [Nat.div_eq_of_lt (show n < 2 ^ drop by omega), Nat.div_eq_of_lt (show n < 2 ^ (n.log2 + 2) by omega)]
theorem more_mul (way : Toward) (neg : Bool) (X U k : Nat) (hk : 0 < k) : moreW way neg (X * k) (U * k) = moreW way neg X U := by
  have h1 : X * k / (U * k) = X / U := Nat.mul_div_mul_right _ _ hk
  have h2 : X * k % (U * k) = X % U * k := Nat.mul_mod_mul_right ..
  have h3 : (X % U * k != 0) = (X % U != 0) := by
    rw [Bool.eq_iff_iff]
    simp only [bne_iff_ne, ne_eq]
    constructor
    · intro h h4; exact h (by rw [h4, Nat.zero_mul])
    · intro h h4; exact h ((Nat.mul_eq_zero.1 h4).resolve_right (by omega))
  unfold moreW
  rw [h1, h2]
  cases way
  · dsimp only
    have t1 : decide (U * k < 2 * (X % U * k)) = decide (U < 2 * (X % U)) := by
      rw [← Nat.mul_assoc]; simp only [Nat.mul_lt_mul_right hk]
    have t2 : (U * k == 2 * (X % U * k)) = (U == 2 * (X % U)) := by
      rw [← Nat.mul_assoc, Bool.eq_iff_iff]; simp only [beq_iff_eq]
      exact ⟨fun h => Nat.eq_of_mul_eq_mul_right hk h, fun h => by rw [← h]⟩
    rw [t1, t2]
  · dsimp only; rw [h3]
  · dsimp only; rw [h3]
  · rfl
/-- A number cut to a whole one, by units of a base. -/
theorem cut_base (way : Toward) (neg : Bool) (m : Nat) (p B : Int) (h1 : B ≤ p) (h2 : B ≤ 0) :
    way.cut neg (m <<< p.toNat) (-p).toNat = sc B m p / 2 ^ (-B).toNat + (moreW way neg (sc B m p) (2 ^ (-B).toNat)).toNat := by
  rw [cut_way, Nat.shiftLeft_eq]
  by_cases h : 0 ≤ p
  · have e1 : (-p).toNat = 0 := by omega
    have e2 : sc B m p = m * 2 ^ p.toNat * 2 ^ (-B).toNat := by
      unfold sc
      rw [Nat.mul_assoc, ← Nat.pow_add]; congr 2; omega
    have e3 := more_mul way neg (m * 2 ^ p.toNat) 1 (2 ^ (-B).toNat) (Nat.two_pow_pos _)
    rw [Nat.one_mul] at e3
    rw [e1, e2, Nat.pow_zero, Nat.div_one, Nat.mul_div_cancel _ (Nat.two_pow_pos _), e3]
  · have e1 : p.toNat = 0 := by omega
    have e2 : (-B).toNat = (-p).toNat + (p - B).toNat := by omega
    rw [e1, Nat.pow_zero, Nat.mul_one, e2, Nat.pow_add]
    unfold sc
    rw [Nat.mul_div_mul_right _ _ (Nat.two_pow_pos _), more_mul _ _ _ _ _ (Nat.two_pow_pos _)]
theorem nearest_scB (B : Int) (hB : B ≤ -149) (m : Nat) (p : Int) (hp : B ≤ p) : Ieee.single.nearest false (sc B m p) B = Ieee.single.nearest false m p := by
  by_cases h : m = 0
  · subst h
    have : sc B 0 p = 0 := Nat.zero_mul _
    rw [this, nearest_zero, nearest_zero]
  · have hl := log2_mul m (p - B).toNat (by omega)
    have hne : sc B m p ≠ 0 := by
      have := Nat.mul_pos (show 0 < m by omega) (Nat.two_pow_pos (p - B).toNat)
      unfold sc; omega
    have hl2 : ((sc B m p).log2 : Int) = m.log2 + (p - B).toNat := by unfold sc; rw [hl]; omega
    unfold Format.nearest
    rw [if_neg hne, if_neg h, single_least]
    have e : max (B + ((sc B m p).log2 : Int) - ((Ieee.single.fractionBits : Nat) : Int)) (-149) = max (p + (m.log2 : Int) - ((Ieee.single.fractionBits : Nat) : Int)) (-149) := by rw [hl2]; omega
    rw [e]
    generalize hlast : max (p + (m.log2 : Int) - ((Ieee.single.fractionBits : Nat) : Int)) (-149) = last
    dsimp only
    have hb : B ≤ last := by omega
    rw [cut_units false _ B last B (Int.le_refl _) hb, cut_units false m p last B hp hb, sc_self]
/-- A number that is a real rounds to it. -/
theorem nearest_self (r : Nat) (h : r < 2139095040) : Ieee.single.nearest false (pm r) (pe r) = r := by
  by_cases h0 : r = 0
  · subst h0; rw [pm_zero, nearest_zero]
  · have hp := pm_pos (show 0 < r by omega)
    have he := pe_ge r
    have hx : sc (-600) (pm r) (pe r) < sc (-600) (2 * pm r + 1) (pe r - 1) := by
      have e : sc (-600) (pm r) (pe r) = sc (-600) (pm r * 2 ^ 1) (pe r - 1) := by
        rw [sc_mul (-600) (pm r) 1 (pe r - 1) (by omega)]; congr 1; omega
      rw [e]
      unfold sc
      refine Nat.mul_lt_mul_of_pos_right ?_ (Nat.two_pow_pos _)
      omega
    have := nearest_eq (pm r) (pe r) (-600) hp (by omega) (by decide) (fun m e => icmp (sc (-600) (pm r) (pe r)) (sc (-600) m e)) (fun m e _ _ _ => rfl) r h (by rw [icmp_ge]; exact Nat.le_refl _) (by
      by_cases h1 : r + 1 = 2139095040
      · exact .inl h1
      · exact .inr ⟨by omega, by rw [icmp_lt]; exact W_step (-600) (by decide) r⟩)
    rw [this, if_neg]
    intro hc
    rcases hc with hc | ⟨hc, _⟩
    · rw [icmp_gt] at hc; omega
    · rw [icmp_eq] at hc; omega
end Go.Proofs.Ytndhlgbpfkidbaa.n03

