/-
  Reals: from chapter 3's Ba, what is needed here.
-/
import Derived.Test.YtndhlgbpfkidbaaRows
import Derived.Test.YtndhlgbpfkidbaaGen
import Derived.Laws.Externs
import Derived.WalkLawsBesides
namespace Go.Proofs.Ytndhlgbpfkidbaa.n03
open Go.RowKit Go.K
set_option linter.unusedVariables false
set_option linter.unusedSimpArgs false

theorem call50 (b : Nat) (w : World) : (callFunc 57 #[.float .f32 b]).run Try.prog w = .ok (.value (.int .u32 b)) w := by
  rw [run_callFunc_extern (e := Extern.MathFloatBits.float32bits) Try.func57 (by kernel_rfl) (by kernel_rfl) (by kernel_rfl) (by kernel_rfl)]; rfl
theorem call52 (n : Int) (w : World) : (callFunc 28 #[.int .u32 n]).run Try.prog w = .ok (.value (.float .f32 n.toNat)) w := by
  rw [run_callFunc_extern (e := Extern.MathFloatBits.float32frombits) Try.func28 (by kernel_rfl) (by kernel_rfl) (by kernel_rfl) (by kernel_rfl)]; rfl
attribute [local go_sem] call50 call52
/-- A word that is no number. -/
def nanW (x : Nat) : Bool := decide (2139095040 < x % 2147483648)
def cleanW (x : Nat) : Nat := if nanW x then 2143289344 else x
theorem order_self (x : Nat) : (FloatKind.f32.format.order x x != some Ordering.eq) = nanW x := by
  show (((Ieee.single.read x).order (Ieee.single.read x)) != some Ordering.eq) = _
  have h1 : Ieee.single.signWeight = 2147483648 := by decide
  have h2 : Ieee.single.binade = 8388608 := by decide
  have h3 : Ieee.single.infRung = 2139095040 := by decide
  unfold Ieee.Format.read nanW
  simp only [h1, h2, h3]
  have hc : ∀ a : Int, compare a a = Ordering.eq := fun a => by simp [compare, compareOfLessAndEq]
  generalize (x / 2147483648 % 2 == 1) = sg
  generalize x % 2147483648 = rung
  by_cases c1 : rung < 8388608
  · rw [if_pos c1]; simp only [Ieee.Datum.order, hc]; simp; omega
  · rw [if_neg c1]
    by_cases c2 : rung < 2139095040
    · rw [if_pos c2]; simp only [Ieee.Datum.order, hc]; simp; omega
    · rw [if_neg c2]
      by_cases c3 : rung = 2139095040
      · rw [if_pos c3]; subst c3; simp [Ieee.Datum.order, compare, compareOfLessAndEq]
      · rw [if_neg c3]
        have : 2139095040 < rung := by omega
        simp [Ieee.Datum.order, this]
theorem clean_any (x : Nat) (w : World) : Calls Try.prog 64 #[.float .f32 x] w fun e w' => e = .returned (.float .f32 (cleanW x)) ∧ w = w' := by
  have H := Lib.hid (order_self x)
  cases hn : nanW x
  · have h : (FloatKind.f32.format.order x x != some Ordering.eq) = false := by rw [H.out, hn]
    have hc := Lib.hid (show cleanW x = x by simp [cleanW, hn])
    go_enter Try.func64, Try.ntmps64
    go_wp2
    go_ret
    exact ⟨by rw [hc.out]; rfl, rfl⟩
  · have h : (FloatKind.f32.format.order x x != some Ordering.eq) = true := by rw [H.out, hn]
    have hc := Lib.hid (show cleanW x = 2143289344 by simp [cleanW, hn])
    go_enter Try.func64, Try.ntmps64
    go_wp2
    go_ret
    exact ⟨by rw [hc.out]; rfl, rfl⟩
theorem bits_any (x : Nat) (w : World) : Calls Try.prog 59 #[.float .f32 x] w fun e w' => e = .returned (.int .u32 (cleanW x)) ∧ w = w' := by
  go_enter Try.func59, Try.ntmps59
  go_wp2_with (go_at_call 64; refine (clean_any x _).mono ?_; rintro e w1 ⟨rfl, rfl⟩)
  go_ret
  exact ⟨rfl, rfl⟩
theorem of_any (x : Nat) (w : World) : Calls Try.prog 62 #[.int .u32 x] w fun e w' => e = .returned (.float .f32 (cleanW x)) ∧ w = w' := by
  go_enter Try.func62, Try.ntmps62
  go_wp2_with (go_at_call 64; refine (clean_any x _).mono ?_; rintro e w1 ⟨rfl, rfl⟩)
  go_ret
  exact ⟨rfl, rfl⟩
theorem andNot_low (x : Nat) (hx : x < 4294967296) : bits .andNot .u32 (x : Int) 2147483648 = ((x % 2147483648 : Nat) : Int) := by
  show IntKind.u32.wrap (((BitVec.ofInt 32 (x : Int)) &&& ~~~ (BitVec.ofInt 32 2147483648)).toNat : Int) = _
  have h1 : (BitVec.ofInt 32 (x : Int) &&& ~~~ BitVec.ofInt 32 2147483648).toNat = x % 2147483648 := by
    rw [BitVec.toNat_and, BitVec.ofInt_natCast, BitVec.toNat_ofNat]
    have : (~~~ BitVec.ofInt 32 2147483648).toNat = 2 ^ 31 - 1 := by decide
    rw [this, Nat.and_two_pow_sub_one_eq_mod]
    omega
  rw [h1, IntKind.wrap_u32]; omega
def kindW (x : Nat) : Int := if nanW x then 1 else if x % 2147483648 = 2139095040 then 2 else if x % 2147483648 = 0 then 3 else if x % 2147483648 < 8388608 then 4 else 5
set_option maxRecDepth 100000 in
theorem kind_any (x : Nat) (hx : x < 4294967296) (w : World) : Calls Try.prog 42 #[.float .f32 x] w fun e w' => e = .returned (.int .i64 (kindW x)) ∧ w = w' := by
  have ha := andNot_low (cleanW x) (by unfold cleanW; split <;> omega)
  clear hx
  generalize hm : cleanW x % 2147483648 = m at ha
  have hk : kindW x = if m = 2143289344 then 1 else if m = 2139095040 then 2 else if m = 0 then 3 else if m < 8388608 then 4 else 5 := by
    rw [← hm]
    unfold kindW cleanW
    cases hn : nanW x
    · have : x % 2147483648 ≤ 2139095040 := by simp [nanW] at hn; omega
      simp only [Bool.false_eq_true, if_false]
      rw [if_neg (by omega : ¬ x % 2147483648 = 2143289344)]
    · simp
  have HK := Lib.hid hk
  clear hk hm
  by_cases c1 : m = 2143289344
  · have t1 : ((m : Int) == 2143289344) = true := by simp; omega
    go_enter Try.func42, Try.ntmps42
    go_wp2_with (go_at_call 59; refine (bits_any x _).mono ?_; rintro e w1 ⟨rfl, rfl⟩)
    go_ret
    exact ⟨by rw [HK.out, if_pos c1]; rfl, rfl⟩
  · have t1 : ((m : Int) == 2143289344) = false := by simp; omega
    by_cases c2 : m = 2139095040
    · have t2 : ((m : Int) == 2139095040) = true := by simp; omega
      go_enter Try.func42, Try.ntmps42
      go_wp2_with (go_at_call 59; refine (bits_any x _).mono ?_; rintro e w1 ⟨rfl, rfl⟩)
      go_ret
      exact ⟨by rw [HK.out, if_neg c1, if_pos c2]; rfl, rfl⟩
    · have t2 : ((m : Int) == 2139095040) = false := by simp; omega
      by_cases c3 : m = 0
      · have t3 : ((m : Int) == 0) = true := by simp; omega
        go_enter Try.func42, Try.ntmps42
        go_wp2_with (go_at_call 59; refine (bits_any x _).mono ?_; rintro e w1 ⟨rfl, rfl⟩)
        go_ret
        exact ⟨by rw [HK.out, if_neg c1, if_neg c2, if_pos c3]; rfl, rfl⟩
      · have t3 : ((m : Int) == 0) = false := by simp; omega
        by_cases c4 : m < 8388608
        · have t4 : decide ((m : Int) < 8388608) = true := by simp; omega
          go_enter Try.func42, Try.ntmps42
          go_wp2_with (go_at_call 59; refine (bits_any x _).mono ?_; rintro e w1 ⟨rfl, rfl⟩)
          go_ret
          exact ⟨by rw [HK.out, if_neg c1, if_neg c2, if_neg c3, if_pos c4]; rfl, rfl⟩
        · have t4 : decide ((m : Int) < 8388608) = false := by simp; omega
          go_enter Try.func42, Try.ntmps42
          go_wp2_with (go_at_call 59; refine (bits_any x _).mono ?_; rintro e w1 ⟨rfl, rfl⟩)
          go_ret
          exact ⟨by rw [HK.out, if_neg c1, if_neg c2, if_neg c3, if_neg c4]; rfl, rfl⟩
end Go.Proofs.Ytndhlgbpfkidbaa.n03

