/-
  Reals: from chapter 3's Ba, what is needed here.
-/
import Derived.Test.YthadfopkacbnlaaRows
import Derived.Test.YthadfopkacbnlaaGen
import Derived.Laws.Externs
import Derived.WalkLawsBesides
namespace Go.Proofs.Ythadfopkacbnlaa.n03
open Go.RowKit Go.K
set_option linter.unusedVariables false
set_option linter.unusedSimpArgs false

theorem call50 (b : Nat) (w : World) : (callFunc 46 #[.float .f32 b]).run Try.prog w = .ok (.value (.int .u32 b)) w := by
  rw [run_callFunc_extern (e := Extern.MathFloatBits.float32bits) Try.func46 (by kernel_rfl) (by kernel_rfl) (by kernel_rfl) (by kernel_rfl)]; rfl
theorem call52 (n : Int) (w : World) : (callFunc 52 #[.int .u32 n]).run Try.prog w = .ok (.value (.float .f32 n.toNat)) w := by
  rw [run_callFunc_extern (e := Extern.MathFloatBits.float32frombits) Try.func52 (by kernel_rfl) (by kernel_rfl) (by kernel_rfl) (by kernel_rfl)]; rfl
attribute [local go_sem] call50 call52
/-- A word that is no number. -/
def nanW (x : Nat) : Bool := decide (2139095040 < x % 2147483648)
def cleanW (x : Nat) : Nat := if nanW x then 2143289344 else x
theorem order_self (x : Nat) : (FloatKind.f32.format.order x x != some Ordering.eq) = nanW x := by
  show (((Ieee.single.read x).order (Ieee.single.read x)) != some Ordering.eq) = _
  have h1 : Ieee.single.signWeight = 2147483648 := by decide
  have h2 : Ieee.single.binade = 8388608 := by decide
  have h3 : Ieee.single.infRung = 2139095040 := by decide
  unfold Ieee.Format.read nanW
  simp only [h1, h2, h3]
  have hc : ∀ a : Int, compare a a = Ordering.eq := fun a => by simp [compare, compareOfLessAndEq]
  generalize (x / 2147483648 % 2 == 1) = sg
  generalize x % 2147483648 = rung
  by_cases c1 : rung < 8388608
  · rw [if_pos c1]; simp only [Ieee.Datum.order, hc]; simp; omega
  · rw [if_neg c1]
    by_cases c2 : rung < 2139095040
    · rw [if_pos c2]; simp only [Ieee.Datum.order, hc]; simp; omega
    · rw [if_neg c2]
      by_cases c3 : rung = 2139095040
      · rw [if_pos c3]; subst c3; simp [Ieee.Datum.order, compare, compareOfLessAndEq]
      · rw [if_neg c3]
        have : 2139095040 < rung := by omega
        simp [Ieee.Datum.order, this]
theorem clean_any (x : Nat) (w : World) : Calls Try.prog 37 #[.float .f32 x] w fun e w' => e = .returned (.float .f32 (cleanW x)) ∧ w = w' := by
  have H := Lib.hid (order_self x)
  cases hn : nanW x
  · have h : (FloatKind.f32.format.order x x != some Ordering.eq) = false := by rw [H.out, hn]
    have hc := Lib.hid (show cleanW x = x by simp [cleanW, hn])
    go_enter Try.func37, Try.ntmps37
    go_wp2
    go_ret
    exact ⟨by rw [hc.out]; rfl, rfl⟩
  · have h : (FloatKind.f32.format.order x x != some Ordering.eq) = true := by rw [H.out, hn]
    have hc := Lib.hid (show cleanW x = 2143289344 by simp [cleanW, hn])
    go_enter Try.func37, Try.ntmps37
    go_wp2
    go_ret
    exact ⟨by rw [hc.out]; rfl, rfl⟩
theorem bits_any (x : Nat) (w : World) : Calls Try.prog 42 #[.float .f32 x] w fun e w' => e = .returned (.int .u32 (cleanW x)) ∧ w = w' := by
  go_enter Try.func42, Try.ntmps42
  go_wp2_with (go_at_call 37; refine (clean_any x _).mono ?_; rintro e w1 ⟨rfl, rfl⟩)
  go_ret
  exact ⟨rfl, rfl⟩
def kindW (x : Nat) : Int := if nanW x then 1 else if x % 2147483648 = 2139095040 then 2 else if x % 2147483648 = 0 then 3 else if x % 2147483648 < 8388608 then 4 else 5
end Go.Proofs.Ythadfopkacbnlaa.n03

