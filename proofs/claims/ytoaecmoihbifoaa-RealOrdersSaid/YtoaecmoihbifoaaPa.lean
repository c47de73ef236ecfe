/-
  Layer 3: where reals stand, and what stands at a place; walked.
-/
import Derived.Test.YtoaecmoihbifoaaOj
namespace Go.Proofs.Ytoaecmoihbifoaa
open Go.RowKit Go.K Go.R
set_option linter.unusedVariables false
set_option linter.unusedSimpArgs false
/-- Where a word stands, NaN at 0; what stands at a place. -/
def plcV (x : Nat) : Int := if nanW x then 0 else if sgn x then 2139095041 - (rg x : Int) else 2139095042 + (rg x : Int)
def atV (p : Int) : Nat := if p < 1 then 2143289344 else if p < 2139095042 then wd true (2139095041 - p).toNat else if 4278190082 < p then 2139095040 else (p - 2139095042).toNat
theorem plc_ge (x : Nat) (h : nanW x = false) : 1 ≤ plcV x ∧ plcV x ≤ 4278190082 := by
  have h1 : rg x ≤ 2139095040 := by
    have := of_decide_eq_false h
    unfold rg; omega
  unfold plcV
  rw [h, if_neg (by decide)]
  split <;> omega
theorem plc_rng (x : Nat) : 0 ≤ plcV x ∧ plcV x ≤ 4278190082 := by
  cases h : nanW x
  · have := plc_ge x h; omega
  · unfold plcV; rw [h, if_pos rfl]; decide
set_option maxRecDepth 100000 in
theorem place_any (x : Nat) (hx : x < 4294967296) (w : World) : Calls Try.prog 71 #[.float .f32 x] w fun r w' => r = .returned (.int .i64 (plcV x)) ∧ w = w' := by
  have HB := Lib.hid (fun W => bits_any x W)
  obtain ⟨_, cx⟩ := cls3 x hx
  rcases cx with ⟨hnx, hcx⟩ | ⟨hnx, hcx, hnex, h⟩
  · have HV := Lib.hid (show plcV x = 0 by unfold plcV; rw [if_pos hnx])
    have t0 : ((cleanW x : Int) == 2143289344) = true := by rw [hcx]; decide
    clear hnx hcx
    generalize cleanW x = a at *
    go_enter Try.func71, Try.ntmps71
    go_wp2_with (go_at_call 8; (with_reducible refine (HB.out _).mono ?_); rintro r1 y1 ⟨rfl, rfl⟩)
    go_ret
    exact ⟨by rw [HV.out]; rfl, rfl⟩
  · have hle : rg x ≤ 2139095040 := by rcases h with h | h <;> omega
    have t0 : ((x : Int) == 2143289344) = false := by rw [beq_eq_false_iff_ne]; omega
    rw [hcx] at HB
    have hk := kind_word hx
    have hsh : ((x : Int) / 2147483648) = ((x / 2147483648 : Nat) : Int) := by omega
    cases hs : sgn x
    · have HV := Lib.hid (show plcV x = 2139095042 + (rg x : Int) by unfold plcV; rw [hnx, hs]; rfl)
      rw [hs, wd_false] at hk
      have t1 : (((x / 2147483648 : Nat) : Int) == 1) = false := by rw [beq_eq_false_iff_ne]; omega
      have hw1 : IntKind.i64.wrap (x : Int) = (x : Int) := by rw [IntKind.wrap_i64]; omega
      have HW2 := Lib.hid (show wrap64 (2139095042 + (x : Int)) = plcV x by rw [HV.out]; unfold wrap64; omega)
      have HW3 := Lib.hid (show (2139095042 + (x : Int)) = plcV x by rw [HV.out]; omega)
      clear HV hnx hcx hnex h hle hk hs
      generalize plcV x = V at *
      generalize x / 2147483648 = s at *
      go_enter Try.func71, Try.ntmps71
      go_wp2_with (go_at_call 8; (with_reducible refine (HB.out _).mono ?_); rintro r1 y1 ⟨rfl, rfl⟩)
      go_ret
      exact ⟨by first | (rw [← HW2.out]; rfl) | (rw [← HW3.out]; rfl), rfl⟩
    · have HV := Lib.hid (show plcV x = 2139095041 - (rg x : Int) by unfold plcV; rw [hnx, hs]; rfl)
      rw [hs] at hk
      have hk2 : x = 2147483648 + rg x := hk
      have t1 : (((x / 2147483648 : Nat) : Int) == 1) = true := by rw [beq_iff_eq]; omega
      obtain ⟨q, hq⟩ : ∃ q : Nat, q = 2139095040 - rg x := ⟨_, rfl⟩
      have hw0 : IntKind.u32.wrap (4286578688 - (x : Int)) = (q : Int) := by rw [IntKind.wrap_u32]; omega
      have hw1 : IntKind.i64.wrap (q : Int) = (q : Int) := by rw [IntKind.wrap_i64]; omega
      have HW2 := Lib.hid (show wrap64 (1 + (q : Int)) = plcV x by rw [HV.out]; unfold wrap64; omega)
      have HW3 := Lib.hid (show (1 + (q : Int)) = plcV x by rw [HV.out]; omega)
      clear HV hnx hcx hnex h hle hk hk2 hs hq
      generalize plcV x = V at *
      generalize x / 2147483648 = s at *
      go_enter Try.func71, Try.ntmps71
      go_wp2_with (go_at_call 8; (with_reducible refine (HB.out _).mono ?_); rintro r1 y1 ⟨rfl, rfl⟩)
      go_ret
      exact ⟨by first | (rw [← HW2.out]; rfl) | (rw [← HW3.out]; rfl), rfl⟩
set_option maxRecDepth 100000 in
theorem rplace_any (x : Nat) (hx : x < 4294967296) (w : World) : Calls Try.prog 72 #[.int .u32 (x : Int)] w fun r w' => r = .returned (.int .i64 (plcV x)) ∧ w = w' := by
  have HB := Lib.hid (fun W => rclean_any x W)
  obtain ⟨_, cx⟩ := cls3 x hx
  rcases cx with ⟨hnx, hcx⟩ | ⟨hnx, hcx, hnex, h⟩
  · have HV := Lib.hid (show plcV x = 0 by unfold plcV; rw [if_pos hnx])
    have t0 : ((cleanW x : Int) == 2143289344) = true := by rw [hcx]; decide
    clear hnx hcx
    generalize cleanW x = a at *
    go_enter Try.func72, Try.ntmps72
    go_wp2_with (go_at_call 10; (with_reducible refine (HB.out _).mono ?_); rintro r1 y1 ⟨rfl, rfl⟩)
    go_ret
    exact ⟨by rw [HV.out]; rfl, rfl⟩
  · have hle : rg x ≤ 2139095040 := by rcases h with h | h <;> omega
    have t0 : ((x : Int) == 2143289344) = false := by rw [beq_eq_false_iff_ne]; omega
    rw [hcx] at HB
    have hg := and_rg x
    have hS := sign_and x hx
    have hw1 : IntKind.i64.wrap ((rg x : Nat) : Int) = ((rg x : Nat) : Int) := by rw [IntKind.wrap_i64]; omega
    cases hs : sgn x
    · have HV := Lib.hid (show wrap64 (2139095042 + (rg x : Int)) = plcV x by unfold plcV; rw [hnx, hs, if_neg (by decide), if_neg (by decide)]; unfold wrap64; omega)
      rw [hs] at hS
      have tS : (((wd false 0 : Nat) : Int) != 0) = false := by decide
      clear hnx hcx hnex h hle hs
      generalize plcV x = V at *
      generalize rg x = g at *
      generalize wd false 0 = S at *
      go_enter Try.func72, Try.ntmps72
      go_wp2_with (go_at_call 10; (with_reducible refine (HB.out _).mono ?_); rintro r1 y1 ⟨rfl, rfl⟩)
      go_ret
      exact ⟨by rw [← HV.out]; rfl, rfl⟩
    · have HV := Lib.hid (show wrap64 (2139095041 - (rg x : Int)) = plcV x by unfold plcV; rw [hnx, hs, if_neg (by decide), if_pos rfl]; unfold wrap64; omega)
      rw [hs] at hS
      have tS : (((wd true 0 : Nat) : Int) != 0) = true := by decide
      clear hnx hcx hnex h hle hs
      generalize plcV x = V at *
      generalize rg x = g at *
      generalize wd true 0 = S at *
      go_enter Try.func72, Try.ntmps72
      go_wp2_with (go_at_call 10; (with_reducible refine (HB.out _).mono ?_); rintro r1 y1 ⟨rfl, rfl⟩)
      go_ret
      exact ⟨by rw [← HV.out]; rfl, rfl⟩
end Go.Proofs.Ytoaecmoihbifoaa
