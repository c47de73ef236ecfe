/-
  Reals: from chapter 3's Ng, what is needed here.
-/
import Derived.Test.YthadfopkacbnlaaRNe
import Derived.Laws.FloatArith
namespace Go.Proofs.Ythadfopkacbnlaa.n03
open Go.RowKit Go.K Go.R
open Ieee
set_option linter.unusedVariables false
set_option linter.unusedSimpArgs false

theorem single_sign : Ieee.single.signWeight = 2147483648 := by decide
/-- Is its sign bit set? -/
def sgn (x : Nat) : Bool := x / 2147483648 % 2 == 1
/-- A word of a sign and a rung. -/
def wd (s : Bool) (r : Nat) : Nat := if s then 2147483648 + r else r
theorem wd_word (s : Bool) (r : Nat) : Ieee.single.word s r = wd s r := by unfold Format.word wd; rw [single_sign]
theorem wd_false (r : Nat) : wd false r = r := rfl
theorem read_nan {x : Nat} (h : nanW x = true) : ∃ s f, Ieee.single.read x = .nan s f := by
  have h1 : 2139095040 < x % 2147483648 := of_decide_eq_true h
  unfold Format.read
  rw [single_sign, single_binade, single_inf]
  dsimp only
  rw [if_neg (by omega), if_neg (by omega), if_neg (by omega)]
  exact ⟨_, _, rfl⟩
theorem read_num {x : Nat} (h : rg x < 2139095040) : Ieee.single.read x = .number (sgn x) (pm (rg x)) (pe (rg x)) := by
  unfold rg at h
  unfold Format.read pm pe rg
  rw [single_sign, single_binade, single_inf, single_least]
  dsimp only
  by_cases h1 : x % 2147483648 < 8388608
  · rw [if_pos h1, if_pos h1, if_pos h1]; rfl
  · rw [if_neg h1, if_neg h1, if_neg h1, if_pos h, Nat.add_comm]
    have e : (-149 : Int) + ((x % 2147483648 / 8388608 - 1 : Nat) : Int) = ((x % 2147483648 / 8388608 : Nat) : Int) - 150 := by omega
    rw [e]; rfl
theorem cut_neg (neg : Bool) (n d : Nat) : Toward.even.cut neg n d = Toward.even.cut false n d := by rw [cut_even, cut_even]
/-- What a call shows of an operation's answer: the word, or the one NaN. -/
def opW (o : Option Nat) : Nat := match o with
  | some r => cleanW r
  | none => 2143289344
theorem pm_pos {r : Nat} (h : 0 < r) : 0 < pm r := by unfold pm; split <;> omega
end Go.Proofs.Ythadfopkacbnlaa.n03

