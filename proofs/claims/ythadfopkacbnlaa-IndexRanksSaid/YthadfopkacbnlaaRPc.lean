/-
  Reals: from chapter 3's Pc, what is needed here.
-/
import Derived.Test.YthadfopkacbnlaaRPa
namespace Go.Proofs.Ythadfopkacbnlaa.n03
open Go.RowKit Go.K Go.R
set_option linter.unusedVariables false
set_option linter.unusedSimpArgs false
def ordV (x y : Nat) : Int := if plcV x < plcV y then -1 else if plcV y < plcV x then 1 else 0
set_option maxRecDepth 100000 in
theorem order_any (x y : Nat) (hx : x < 4294967296) (hy : y < 4294967296) (w : World) : Calls Try.prog 12 #[.float .f32 x, .float .f32 y] w fun r w' => r = .returned (.int .i64 (ordV x y)) ∧ w = w' := by
  have HX := Lib.hid (fun W => place_any x hx W)
  have HY := Lib.hid (fun W => place_any y hy W)
  unfold ordV
  generalize plcV x = p at *
  generalize plcV y = q at *
  rcases Int.lt_trichotomy p q with h | h | h
  · rw [if_pos h]
    have t1 : decide (p < q) = true := decide_eq_true (by omega)
    have t2 : decide (p > q) = false := decide_eq_false (by omega)
    have t3 : decide (q < p) = false := decide_eq_false (by omega)
    clear h
    go_enter Try.func12, Try.ntmps12
    go_wp2_with ((first | (go_at_call 29; (with_reducible refine (HX.out _).mono ?_); rintro r1 y1 ⟨rfl, rfl⟩) | (go_at_call 29; (with_reducible refine (HY.out _).mono ?_); rintro r1 y1 ⟨rfl, rfl⟩)))
    go_ret
    exact ⟨rfl, rfl⟩
  · rw [if_neg (by omega), if_neg (by omega)]
    have t1 : decide (p < q) = false := decide_eq_false (by omega)
    have t2 : decide (p > q) = false := decide_eq_false (by omega)
    have t3 : decide (q < p) = false := decide_eq_false (by omega)
    clear h
    go_enter Try.func12, Try.ntmps12
    go_wp2_with ((first | (go_at_call 29; (with_reducible refine (HX.out _).mono ?_); rintro r1 y1 ⟨rfl, rfl⟩) | (go_at_call 29; (with_reducible refine (HY.out _).mono ?_); rintro r1 y1 ⟨rfl, rfl⟩)))
    go_ret
    exact ⟨rfl, rfl⟩
  · rw [if_neg (by omega), if_pos h]
    have t1 : decide (p < q) = false := decide_eq_false (by omega)
    have t2 : decide (p > q) = true := decide_eq_true (by omega)
    have t3 : decide (q < p) = true := decide_eq_true (by omega)
    clear h
    go_enter Try.func12, Try.ntmps12
    go_wp2_with ((first | (go_at_call 29; (with_reducible refine (HX.out _).mono ?_); rintro r1 y1 ⟨rfl, rfl⟩) | (go_at_call 29; (with_reducible refine (HY.out _).mono ?_); rintro r1 y1 ⟨rfl, rfl⟩)))
    go_ret
    exact ⟨rfl, rfl⟩
end Go.Proofs.Ythadfopkacbnlaa.n03

