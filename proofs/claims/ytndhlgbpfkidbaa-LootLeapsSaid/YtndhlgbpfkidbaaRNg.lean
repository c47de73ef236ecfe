/-
  Reals: from chapter 3's Ng, what is needed here.
-/
import Derived.Test.YtndhlgbpfkidbaaRNe
import Derived.Laws.FloatArith
namespace Go.Proofs.Ytndhlgbpfkidbaa.n03
open Go.RowKit Go.K Go.R
open Ieee
set_option linter.unusedVariables false
set_option linter.unusedSimpArgs false

theorem single_sign : Ieee.single.signWeight = 2147483648 := by decide
/-- Is its sign bit set? -/
def sgn (x : Nat) : Bool := x / 2147483648 % 2 == 1
/-- A word of a sign and a rung. -/
def wd (s : Bool) (r : Nat) : Nat := if s then 2147483648 + r else r
theorem wd_word (s : Bool) (r : Nat) : Ieee.single.word s r = wd s r := by unfold Format.word wd; rw [single_sign]
theorem wd_false (r : Nat) : wd false r = r := rfl
theorem read_nan {x : Nat} (h : nanW x = true) : ∃ s f, Ieee.single.read x = .nan s f := by
  have h1 : 2139095040 < x % 2147483648 := of_decide_eq_true h
  unfold Format.read
  rw [single_sign, single_binade, single_inf]
  dsimp only
  rw [if_neg (by omega), if_neg (by omega), if_neg (by omega)]
  exact ⟨_, _, rfl⟩
theorem read_inf {x : Nat} (h : rg x = 2139095040) : Ieee.single.read x = .infinity (sgn x) := by
  unfold rg at h
  unfold Format.read
  rw [single_sign, single_binade, single_inf]
  dsimp only
  rw [if_neg (by omega), if_neg (by omega), if_pos h]
  rfl
theorem read_num {x : Nat} (h : rg x < 2139095040) : Ieee.single.read x = .number (sgn x) (pm (rg x)) (pe (rg x)) := by
  unfold rg at h
  unfold Format.read pm pe rg
  rw [single_sign, single_binade, single_inf, single_least]
  dsimp only
  by_cases h1 : x % 2147483648 < 8388608
  · rw [if_pos h1, if_pos h1, if_pos h1]; rfl
  · rw [if_neg h1, if_neg h1, if_neg h1, if_pos h, Nat.add_comm]
    have e : (-149 : Int) + ((x % 2147483648 / 8388608 - 1 : Nat) : Int) = ((x % 2147483648 / 8388608 : Nat) : Int) - 150 := by omega
    rw [e]; rfl
theorem cut_neg (neg : Bool) (n d : Nat) : Toward.even.cut neg n d = Toward.even.cut false n d := by rw [cut_even, cut_even]
theorem nearest_neg (s : Bool) (m : Nat) (p : Int) : Ieee.single.nearest s m p = wd s (Ieee.single.nearest false m p) := by
  unfold Format.nearest
  by_cases h : m = 0
  · rw [if_pos h, if_pos h, wd_word, wd_word, wd_false]
  · rw [if_neg h, if_neg h]
    dsimp only
    rw [cut_neg s, wd_word, wd_word, wd_false]
theorem nearest_le (m : Nat) (p : Int) : Ieee.single.nearest false m p ≤ 2139095040 := by
  unfold Format.nearest
  by_cases h : m = 0
  · rw [if_pos h, wd_word, wd_false]; exact Nat.zero_le _
  · rw [if_neg h, single_inf]
    dsimp only
    rw [wd_word, wd_false]
    exact Nat.min_le_right _ _
theorem nearest_zero (p : Int) : Ieee.single.nearest false 0 p = 0 := by
  unfold Format.nearest
  rw [if_pos rfl, wd_word, wd_false]
theorem log2_mul (m k : Nat) (h : 0 < m) : (m * 2 ^ k).log2 = m.log2 + k := by
  have h1 : 2 ^ m.log2 ≤ m := Nat.log2_self_le (by omega)
  have h2 : m < 2 ^ (m.log2 + 1) := Nat.lt_log2_self
  have hp := Nat.two_pow_pos k
  have hne : m * 2 ^ k ≠ 0 := by
    have := Nat.mul_pos h hp
    omega
  refine Nat.le_antisymm (Nat.le_of_lt_succ ?_) ?_
  · rw [Nat.log2_lt hne]
    have := Nat.mul_lt_mul_of_pos_right h2 hp
    rw [← Nat.pow_add] at this
    rw [show (m.log2 + k).succ = m.log2 + 1 + k by omega]; exact this
  · rw [Nat.le_log2 hne, Nat.pow_add]
    exact Nat.mul_le_mul_right _ h1
/-- The same number by other places. -/
theorem nearest_sc (m : Nat) (p : Int) (hp : -600 ≤ p) : Ieee.single.nearest false (sc (-600) m p) (-600) = Ieee.single.nearest false m p := by
  by_cases h : m = 0
  · subst h
    have : sc (-600) 0 p = 0 := Nat.zero_mul _
    rw [this, nearest_zero, nearest_zero]
  · have hl := log2_mul m (p - -600).toNat (by omega)
    have hne : sc (-600) m p ≠ 0 := by
      have := Nat.mul_pos (show 0 < m by omega) (Nat.two_pow_pos (p - -600).toNat)
      unfold sc; omega
    have hl2 : ((sc (-600) m p).log2 : Int) = m.log2 + (p - -600).toNat := by unfold sc; rw [hl]; omega
    unfold Format.nearest
    rw [if_neg hne, if_neg h, single_least]
    have e : max (-600 + ((sc (-600) m p).log2 : Int) - ((Ieee.single.fractionBits : Nat) : Int)) (-149) = max (p + (m.log2 : Int) - ((Ieee.single.fractionBits : Nat) : Int)) (-149) := by rw [hl2]; omega
    rw [e]
    generalize hlast : max (p + (m.log2 : Int) - ((Ieee.single.fractionBits : Nat) : Int)) (-149) = last
    dsimp only
    have hb : -600 ≤ last := by omega
    rw [cut_units false _ (-600) last (-600) (Int.le_refl _) hb, cut_units false m p last (-600) hp hb, sc_self]
/-- What a call shows of an operation's answer: the word, or the one NaN. -/
def opW (o : Option Nat) : Nat := match o with
  | some r => cleanW r
  | none => 2143289344
theorem rg_wd (s : Bool) (r : Nat) (h : r < 2147483648) : rg (wd s r) = r := by unfold rg wd; split <;> omega
theorem nan_wd (s : Bool) (r : Nat) (h : r ≤ 2139095040) : nanW (wd s r) = false := by
  have h1 : (wd s r) % 2147483648 = r := rg_wd s r (by omega)
  unfold nanW
  rw [h1]
  exact decide_eq_false (by omega)
theorem opW_wd (s : Bool) (r : Nat) (h : r ≤ 2139095040) : opW (some (wd s r)) = wd s r := by
  unfold opW cleanW
  dsimp only
  rw [nan_wd s r h]; rfl
theorem opW_near (s : Bool) (m : Nat) (p : Int) : opW (some (Ieee.single.nearest s m p)) = wd s (Ieee.single.nearest false m p) := by rw [nearest_neg, opW_wd _ _ (nearest_le m p)]
theorem pm_pos {r : Nat} (h : 0 < r) : 0 < pm r := by unfold pm; split <;> omega
theorem pm_zero : pm 0 = 0 := by decide
end Go.Proofs.Ytndhlgbpfkidbaa.n03

