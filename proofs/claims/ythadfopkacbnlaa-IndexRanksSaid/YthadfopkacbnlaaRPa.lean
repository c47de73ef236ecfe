/-
  Reals: from chapter 3's Pa, what is needed here.
-/
import Derived.Test.YthadfopkacbnlaaROd
namespace Go.Proofs.Ythadfopkacbnlaa.n03
open Go.RowKit Go.K Go.R
set_option linter.unusedVariables false
set_option linter.unusedSimpArgs false
/-- Where a word stands, NaN at 0; what stands at a place. -/
def plcV (x : Nat) : Int := if nanW x then 0 else if sgn x then 2139095041 - (rg x : Int) else 2139095042 + (rg x : Int)
set_option maxRecDepth 100000 in
theorem place_any (x : Nat) (hx : x < 4294967296) (w : World) : Calls Try.prog 29 #[.float .f32 x] w fun r w' => r = .returned (.int .i64 (plcV x)) ∧ w = w' := by
  have HB := Lib.hid (fun W => bits_any x W)
  obtain ⟨_, cx⟩ := cls3 x hx
  rcases cx with ⟨hnx, hcx⟩ | ⟨hnx, hcx, hnex, h⟩
  · have HV := Lib.hid (show plcV x = 0 by unfold plcV; rw [if_pos hnx])
    have t0 : ((cleanW x : Int) == 2143289344) = true := by rw [hcx]; decide
    clear hnx hcx
    generalize cleanW x = a at *
    go_enter Try.func29, Try.ntmps29
    go_wp2_with (go_at_call 42; (with_reducible refine (HB.out _).mono ?_); rintro r1 y1 ⟨rfl, rfl⟩)
    go_ret
    exact ⟨by rw [HV.out]; rfl, rfl⟩
  · have hle : rg x ≤ 2139095040 := by rcases h with h | h <;> omega
    have t0 : ((x : Int) == 2143289344) = false := by rw [beq_eq_false_iff_ne]; omega
    rw [hcx] at HB
    have hk := kind_word hx
    have hsh : ((x : Int) / 2147483648) = ((x / 2147483648 : Nat) : Int) := by omega
    cases hs : sgn x
    · have HV := Lib.hid (show plcV x = 2139095042 + (rg x : Int) by unfold plcV; rw [hnx, hs]; rfl)
      rw [hs, wd_false] at hk
      have t1 : (((x / 2147483648 : Nat) : Int) == 1) = false := by rw [beq_eq_false_iff_ne]; omega
      have hw1 : IntKind.i64.wrap (x : Int) = (x : Int) := by rw [IntKind.wrap_i64]; omega
      have HW2 := Lib.hid (show wrap64 (2139095042 + (x : Int)) = plcV x by rw [HV.out]; unfold wrap64; omega)
      have HW3 := Lib.hid (show (2139095042 + (x : Int)) = plcV x by rw [HV.out]; omega)
      clear HV hnx hcx hnex h hle hk hs
      generalize plcV x = V at *
      generalize x / 2147483648 = s at *
      go_enter Try.func29, Try.ntmps29
      go_wp2_with (go_at_call 42; (with_reducible refine (HB.out _).mono ?_); rintro r1 y1 ⟨rfl, rfl⟩)
      go_ret
      exact ⟨by first | (rw [← HW2.out]; rfl) | (rw [← HW3.out]; rfl), rfl⟩
    · have HV := Lib.hid (show plcV x = 2139095041 - (rg x : Int) by unfold plcV; rw [hnx, hs]; rfl)
      rw [hs] at hk
      have hk2 : x = 2147483648 + rg x := hk
      have t1 : (((x / 2147483648 : Nat) : Int) == 1) = true := by rw [beq_iff_eq]; omega
      obtain ⟨q, hq⟩ : ∃ q : Nat, q = 2139095040 - rg x := ⟨_, rfl⟩
      have hw0 : IntKind.u32.wrap (4286578688 - (x : Int)) = (q : Int) := by rw [IntKind.wrap_u32]; omega
      have hw1 : IntKind.i64.wrap (q : Int) = (q : Int) := by rw [IntKind.wrap_i64]; omega
      have HW2 := Lib.hid (show wrap64 (1 + (q : Int)) = plcV x by rw [HV.out]; unfold wrap64; omega)
      have HW3 := Lib.hid (show (1 + (q : Int)) = plcV x by rw [HV.out]; omega)
      clear HV hnx hcx hnex h hle hk hk2 hs hq
      generalize plcV x = V at *
      generalize x / 2147483648 = s at *
      go_enter Try.func29, Try.ntmps29
      go_wp2_with (go_at_call 42; (with_reducible refine (HB.out _).mono ?_); rintro r1 y1 ⟨rfl, rfl⟩)
      go_ret
      exact ⟨by first | (rw [← HW2.out]; rfl) | (rw [← HW3.out]; rfl), rfl⟩
end Go.Proofs.Ythadfopkacbnlaa.n03

