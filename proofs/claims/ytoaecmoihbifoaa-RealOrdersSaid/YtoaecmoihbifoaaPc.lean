/-
  Layer 3: the order, steps in it, how far apart; walked.
-/
import Derived.Test.YtoaecmoihbifoaaPb
namespace Go.Proofs.Ytoaecmoihbifoaa
open Go.RowKit Go.K Go.R
set_option linter.unusedVariables false
set_option linter.unusedSimpArgs false
def ordV (x y : Nat) : Int := if plcV x < plcV y then -1 else if plcV y < plcV x then 1 else 0
def aptV (x y : Nat) : Int := if plcV x < plcV y then plcV y - plcV x else plcV x - plcV y
set_option maxRecDepth 100000 in
theorem order_any (x y : Nat) (hx : x < 4294967296) (hy : y < 4294967296) (w : World) : Calls Try.prog 40 #[.float .f32 x, .float .f32 y] w fun r w' => r = .returned (.int .i64 (ordV x y)) ∧ w = w' := by
  have HX := Lib.hid (fun W => place_any x hx W)
  have HY := Lib.hid (fun W => place_any y hy W)
  unfold ordV
  generalize plcV x = p at *
  generalize plcV y = q at *
  rcases Int.lt_trichotomy p q with h | h | h
  · rw [if_pos h]
    have t1 : decide (p < q) = true := decide_eq_true (by omega)
    have t2 : decide (p > q) = false := decide_eq_false (by omega)
    have t3 : decide (q < p) = false := decide_eq_false (by omega)
    clear h
    go_enter Try.func40, Try.ntmps40
    go_wp2_with ((first | (go_at_call 71; (with_reducible refine (HX.out _).mono ?_); rintro r1 y1 ⟨rfl, rfl⟩) | (go_at_call 71; (with_reducible refine (HY.out _).mono ?_); rintro r1 y1 ⟨rfl, rfl⟩)))
    go_ret
    exact ⟨rfl, rfl⟩
  · rw [if_neg (by omega), if_neg (by omega)]
    have t1 : decide (p < q) = false := decide_eq_false (by omega)
    have t2 : decide (p > q) = false := decide_eq_false (by omega)
    have t3 : decide (q < p) = false := decide_eq_false (by omega)
    clear h
    go_enter Try.func40, Try.ntmps40
    go_wp2_with ((first | (go_at_call 71; (with_reducible refine (HX.out _).mono ?_); rintro r1 y1 ⟨rfl, rfl⟩) | (go_at_call 71; (with_reducible refine (HY.out _).mono ?_); rintro r1 y1 ⟨rfl, rfl⟩)))
    go_ret
    exact ⟨rfl, rfl⟩
  · rw [if_neg (by omega), if_pos h]
    have t1 : decide (p < q) = false := decide_eq_false (by omega)
    have t2 : decide (p > q) = true := decide_eq_true (by omega)
    have t3 : decide (q < p) = true := decide_eq_true (by omega)
    clear h
    go_enter Try.func40, Try.ntmps40
    go_wp2_with ((first | (go_at_call 71; (with_reducible refine (HX.out _).mono ?_); rintro r1 y1 ⟨rfl, rfl⟩) | (go_at_call 71; (with_reducible refine (HY.out _).mono ?_); rintro r1 y1 ⟨rfl, rfl⟩)))
    go_ret
    exact ⟨rfl, rfl⟩
set_option maxRecDepth 100000 in
theorem rorder_any (x y : Nat) (hx : x < 4294967296) (hy : y < 4294967296) (w : World) : Calls Try.prog 41 #[.int .u32 (x : Int), .int .u32 (y : Int)] w fun r w' => r = .returned (.int .i64 (ordV x y)) ∧ w = w' := by
  have HX := Lib.hid (fun W => rplace_any x hx W)
  have HY := Lib.hid (fun W => rplace_any y hy W)
  unfold ordV
  generalize plcV x = p at *
  generalize plcV y = q at *
  rcases Int.lt_trichotomy p q with h | h | h
  · rw [if_pos h]
    have t1 : decide (p < q) = true := decide_eq_true (by omega)
    have t2 : decide (p > q) = false := decide_eq_false (by omega)
    have t3 : decide (q < p) = false := decide_eq_false (by omega)
    clear h
    go_enter Try.func41, Try.ntmps41
    go_wp2_with ((first | (go_at_call 72; (with_reducible refine (HX.out _).mono ?_); rintro r1 y1 ⟨rfl, rfl⟩) | (go_at_call 72; (with_reducible refine (HY.out _).mono ?_); rintro r1 y1 ⟨rfl, rfl⟩)))
    go_ret
    exact ⟨rfl, rfl⟩
  · rw [if_neg (by omega), if_neg (by omega)]
    have t1 : decide (p < q) = false := decide_eq_false (by omega)
    have t2 : decide (p > q) = false := decide_eq_false (by omega)
    have t3 : decide (q < p) = false := decide_eq_false (by omega)
    clear h
    go_enter Try.func41, Try.ntmps41
    go_wp2_with ((first | (go_at_call 72; (with_reducible refine (HX.out _).mono ?_); rintro r1 y1 ⟨rfl, rfl⟩) | (go_at_call 72; (with_reducible refine (HY.out _).mono ?_); rintro r1 y1 ⟨rfl, rfl⟩)))
    go_ret
    exact ⟨rfl, rfl⟩
  · rw [if_neg (by omega), if_pos h]
    have t1 : decide (p < q) = false := decide_eq_false (by omega)
    have t2 : decide (p > q) = true := decide_eq_true (by omega)
    have t3 : decide (q < p) = true := decide_eq_true (by omega)
    clear h
    go_enter Try.func41, Try.ntmps41
    go_wp2_with ((first | (go_at_call 72; (with_reducible refine (HX.out _).mono ?_); rintro r1 y1 ⟨rfl, rfl⟩) | (go_at_call 72; (with_reducible refine (HY.out _).mono ?_); rintro r1 y1 ⟨rfl, rfl⟩)))
    go_ret
    exact ⟨rfl, rfl⟩
set_option maxRecDepth 100000 in
theorem apart_any (x y : Nat) (hx : x < 4294967296) (hy : y < 4294967296) (w : World) : Calls Try.prog 42 #[.float .f32 x, .float .f32 y] w fun r w' => r = .returned (.int .i64 (aptV x y)) ∧ w = w' := by
  have HX := Lib.hid (fun W => place_any x hx W)
  have HY := Lib.hid (fun W => place_any y hy W)
  have bx := plc_rng x
  have by' := plc_rng y
  unfold aptV
  generalize plcV x = p at *
  generalize plcV y = q at *
  by_cases h : p < q
  · rw [if_pos h]
    have t1 : decide (p < q) = true := decide_eq_true h
    have t2 : decide (p - q < 0) = true := decide_eq_true (by omega)
    have hw1 : IntKind.i64.wrap (p - q) = p - q := by rw [IntKind.wrap_i64]; omega
    have hw2 : IntKind.i64.wrap (q - p) = q - p := by rw [IntKind.wrap_i64]; omega
    have hw3 : IntKind.i64.wrap (-(p - q)) = q - p := by rw [IntKind.wrap_i64]; omega
    have HE1 := Lib.hid (show -(p - q) = q - p by omega)
    go_enter Try.func42, Try.ntmps42
    go_wp2_with ((first | (go_at_call 71; (with_reducible refine (HX.out _).mono ?_); rintro r1 y1 ⟨rfl, rfl⟩) | (go_at_call 71; (with_reducible refine (HY.out _).mono ?_); rintro r1 y1 ⟨rfl, rfl⟩)))
    all_goals first
      | (exfalso; omega)
      | (go_ret; exact ⟨by first | rfl | (rw [← HE1.out]; rfl) | (rw [show p - q = 0 by omega]; rfl) | (rw [show q - p = 0 by omega]; rfl), rfl⟩)
  · rw [if_neg h]
    have t1 : decide (p < q) = false := decide_eq_false h
    have t2 : decide (p - q < 0) = false := decide_eq_false (by omega)
    have hw1 : IntKind.i64.wrap (p - q) = p - q := by rw [IntKind.wrap_i64]; omega
    have hw2 : IntKind.i64.wrap (q - p) = q - p := by rw [IntKind.wrap_i64]; omega
    have hw3 : IntKind.i64.wrap (-(p - q)) = q - p := by rw [IntKind.wrap_i64]; omega
    have HE1 := Lib.hid (show -(p - q) = q - p by omega)
    go_enter Try.func42, Try.ntmps42
    go_wp2_with ((first | (go_at_call 71; (with_reducible refine (HX.out _).mono ?_); rintro r1 y1 ⟨rfl, rfl⟩) | (go_at_call 71; (with_reducible refine (HY.out _).mono ?_); rintro r1 y1 ⟨rfl, rfl⟩)))
    all_goals first
      | (exfalso; omega)
      | (go_ret; exact ⟨by first | rfl | (rw [← HE1.out]; rfl) | (rw [show p - q = 0 by omega]; rfl) | (rw [show q - p = 0 by omega]; rfl), rfl⟩)
set_option maxRecDepth 100000 in
theorem rapart_any (x y : Nat) (hx : x < 4294967296) (hy : y < 4294967296) (w : World) : Calls Try.prog 43 #[.int .u32 (x : Int), .int .u32 (y : Int)] w fun r w' => r = .returned (.int .i64 (aptV x y)) ∧ w = w' := by
  have HX := Lib.hid (fun W => rplace_any x hx W)
  have HY := Lib.hid (fun W => rplace_any y hy W)
  have bx := plc_rng x
  have by' := plc_rng y
  unfold aptV
  generalize plcV x = p at *
  generalize plcV y = q at *
  by_cases h : p < q
  · rw [if_pos h]
    have t1 : decide (p < q) = true := decide_eq_true h
    have t2 : decide (p - q < 0) = true := decide_eq_true (by omega)
    have hw1 : IntKind.i64.wrap (p - q) = p - q := by rw [IntKind.wrap_i64]; omega
    have hw2 : IntKind.i64.wrap (q - p) = q - p := by rw [IntKind.wrap_i64]; omega
    have hw3 : IntKind.i64.wrap (-(p - q)) = q - p := by rw [IntKind.wrap_i64]; omega
    have HE1 := Lib.hid (show -(p - q) = q - p by omega)
    go_enter Try.func43, Try.ntmps43
    go_wp2_with ((first | (go_at_call 72; (with_reducible refine (HX.out _).mono ?_); rintro r1 y1 ⟨rfl, rfl⟩) | (go_at_call 72; (with_reducible refine (HY.out _).mono ?_); rintro r1 y1 ⟨rfl, rfl⟩)))
    all_goals first
      | (exfalso; omega)
      | (go_ret; exact ⟨by first | rfl | (rw [← HE1.out]; rfl) | (rw [show p - q = 0 by omega]; rfl) | (rw [show q - p = 0 by omega]; rfl), rfl⟩)
  · rw [if_neg h]
    have t1 : decide (p < q) = false := decide_eq_false h
    have t2 : decide (p - q < 0) = false := decide_eq_false (by omega)
    have hw1 : IntKind.i64.wrap (p - q) = p - q := by rw [IntKind.wrap_i64]; omega
    have hw2 : IntKind.i64.wrap (q - p) = q - p := by rw [IntKind.wrap_i64]; omega
    have hw3 : IntKind.i64.wrap (-(p - q)) = q - p := by rw [IntKind.wrap_i64]; omega
    have HE1 := Lib.hid (show -(p - q) = q - p by omega)
    go_enter Try.func43, Try.ntmps43
    go_wp2_with ((first | (go_at_call 72; (with_reducible refine (HX.out _).mono ?_); rintro r1 y1 ⟨rfl, rfl⟩) | (go_at_call 72; (with_reducible refine (HY.out _).mono ?_); rintro r1 y1 ⟨rfl, rfl⟩)))
    all_goals first
      | (exfalso; omega)
      | (go_ret; exact ⟨by first | rfl | (rw [← HE1.out]; rfl) | (rw [show p - q = 0 by omega]; rfl) | (rw [show q - p = 0 by omega]; rfl), rfl⟩)
set_option maxRecDepth 100000 in
theorem next_any (x : Nat) (hx : x < 4294967296) (w : World) : Calls Try.prog 46 #[.float .f32 x] w fun r w' => r = .returned (.float .f32 (atV (plcV x + 1))) ∧ w = w' := by
  have HX := Lib.hid (fun W => place_any x hx W)
  have bx := plc_rng x
  have HA := Lib.hid (fun W => at_any (plcV x + 1) (by omega) (by omega) W)
  have hw1 : IntKind.i64.wrap (plcV x + 1) = plcV x + 1 := by rw [IntKind.wrap_i64]; omega
  generalize atV (plcV x + 1) = V at *
  generalize plcV x = p at *
  go_enter Try.func46, Try.ntmps46
  go_wp2_with ((first | (go_at_call 71; (with_reducible refine (HX.out _).mono ?_); rintro r1 y1 ⟨rfl, rfl⟩) | (go_at_call 73; (with_reducible refine (HA.out _).mono ?_); rintro r1 y1 ⟨rfl, rfl⟩)))
  go_ret
  exact ⟨rfl, rfl⟩
set_option maxRecDepth 100000 in
theorem rnext_any (x : Nat) (hx : x < 4294967296) (w : World) : Calls Try.prog 47 #[.int .u32 (x : Int)] w fun r w' => r = .returned (.int .u32 ((atV (plcV x + 1) : Nat) : Int)) ∧ w = w' := by
  have HX := Lib.hid (fun W => rplace_any x hx W)
  have bx := plc_rng x
  have HA := Lib.hid (fun W => rat_any (plcV x + 1) (by omega) (by omega) W)
  have hw1 : IntKind.i64.wrap (plcV x + 1) = plcV x + 1 := by rw [IntKind.wrap_i64]; omega
  generalize atV (plcV x + 1) = V at *
  generalize plcV x = p at *
  go_enter Try.func47, Try.ntmps47
  go_wp2_with ((first | (go_at_call 72; (with_reducible refine (HX.out _).mono ?_); rintro r1 y1 ⟨rfl, rfl⟩) | (go_at_call 74; (with_reducible refine (HA.out _).mono ?_); rintro r1 y1 ⟨rfl, rfl⟩)))
  go_ret
  exact ⟨rfl, rfl⟩
set_option maxRecDepth 100000 in
theorem prev_any (x : Nat) (hx : x < 4294967296) (w : World) : Calls Try.prog 48 #[.float .f32 x] w fun r w' => r = .returned (.float .f32 (atV (plcV x - 1))) ∧ w = w' := by
  have HX := Lib.hid (fun W => place_any x hx W)
  have bx := plc_rng x
  have HA := Lib.hid (fun W => at_any (plcV x - 1) (by omega) (by omega) W)
  have hw1 : IntKind.i64.wrap (plcV x - 1) = plcV x - 1 := by rw [IntKind.wrap_i64]; omega
  generalize atV (plcV x - 1) = V at *
  generalize plcV x = p at *
  go_enter Try.func48, Try.ntmps48
  go_wp2_with ((first | (go_at_call 71; (with_reducible refine (HX.out _).mono ?_); rintro r1 y1 ⟨rfl, rfl⟩) | (go_at_call 73; (with_reducible refine (HA.out _).mono ?_); rintro r1 y1 ⟨rfl, rfl⟩)))
  go_ret
  exact ⟨rfl, rfl⟩
set_option maxRecDepth 100000 in
theorem rprev_any (x : Nat) (hx : x < 4294967296) (w : World) : Calls Try.prog 49 #[.int .u32 (x : Int)] w fun r w' => r = .returned (.int .u32 ((atV (plcV x - 1) : Nat) : Int)) ∧ w = w' := by
  have HX := Lib.hid (fun W => rplace_any x hx W)
  have bx := plc_rng x
  have HA := Lib.hid (fun W => rat_any (plcV x - 1) (by omega) (by omega) W)
  have hw1 : IntKind.i64.wrap (plcV x - 1) = plcV x - 1 := by rw [IntKind.wrap_i64]; omega
  generalize atV (plcV x - 1) = V at *
  generalize plcV x = p at *
  go_enter Try.func49, Try.ntmps49
  go_wp2_with ((first | (go_at_call 72; (with_reducible refine (HX.out _).mono ?_); rintro r1 y1 ⟨rfl, rfl⟩) | (go_at_call 74; (with_reducible refine (HA.out _).mono ?_); rintro r1 y1 ⟨rfl, rfl⟩)))
  go_ret
  exact ⟨rfl, rfl⟩
theorem pfinite_any (x : Nat) (hx : x < 4294967296) (w : World) : Calls Try.prog 65 #[.float .f32 x] w fun r w' => r = .returned (.bool (finW x)) ∧ w = w' := by
  have H := Lib.hid (finW_kind x)
  have HK := Lib.hid (fun W => kind_any x hx W)
  go_enter Try.func65, Try.ntmps65
  go_wp2_with (go_at_call 13; (with_reducible refine (HK.out _).mono ?_); rintro e w1 ⟨rfl, rfl⟩)
  go_ret
  exact ⟨by rw [← H.out]; rfl, rfl⟩
end Go.Proofs.Ytoaecmoihbifoaa
