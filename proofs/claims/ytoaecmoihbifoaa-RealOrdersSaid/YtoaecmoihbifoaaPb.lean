/-
  Layer 3: what stands at a place, the order, what stands beside; walked.
-/
import Derived.Test.YtoaecmoihbifoaaPa
namespace Go.Proofs.Ytoaecmoihbifoaa
open Go.RowKit Go.K Go.R
set_option linter.unusedVariables false
set_option linter.unusedSimpArgs false
theorem of_word (V : Nat) (h : nanW V = false) (w : World) : Calls Try.prog 12 #[.int .u32 (V : Int)] w fun e w' => e = .returned (.float .f32 V) ∧ w = w' := by
  have := of_any V w
  rw [cleanW_of h] at this
  exact this
theorem nan_le {r : Nat} (h : r ≤ 2139095040) : nanW r = false := nan_wd false r h
set_option maxRecDepth 100000 in
theorem at_any (p : Int) (h1 : -1 ≤ p) (h2 : p ≤ 4278190083) (w : World) : Calls Try.prog 73 #[.int .i64 p] w fun r w' => r = .returned (.float .f32 (atV p)) ∧ w = w' := by
  by_cases c1 : p < 1
  · have HV := Lib.hid (show atV p = 2143289344 by unfold atV; rw [if_pos c1])
    have t1 : decide (p ≤ 0) = true := decide_eq_true (by omega)
    have HO := Lib.hid (fun W => of_any 2143289344 W)
    clear c1
    generalize atV p = V at *
    go_enter Try.func73, Try.ntmps73
    go_wp2_with (go_at_call 12; refine (of_any 2143289344 _).mono ?_; rintro r1 y1 ⟨rfl, rfl⟩)
    go_ret
    exact ⟨by rw [HV.out]; rfl, rfl⟩
  · have t1 : decide (p ≤ 0) = false := decide_eq_false (by omega)
    by_cases c2 : p < 2139095042
    · have t2 : decide (p ≤ 2139095041) = true := decide_eq_true (by omega)
      have hV : atV p = wd true (2139095041 - p).toNat := by unfold atV; rw [if_neg c1, if_pos c2]
      have hV2 : atV p = 2147483648 + (2139095041 - p).toNat := hV
      have hn : nanW (atV p) = false := by rw [hV]; exact nan_wd true _ (by omega)
      have HO := Lib.hid (fun W => of_word (atV p) hn W)
      have hw1 : IntKind.i64.wrap (p - 1) = p - 1 := by rw [IntKind.wrap_i64]; omega
      have hw2 : IntKind.u32.wrap (p - 1) = p - 1 := by rw [IntKind.wrap_u32]; omega
      have hw3 : IntKind.u32.wrap (4286578688 - (p - 1)) = ((atV p : Nat) : Int) := by rw [IntKind.wrap_u32, hV2]; omega
      clear hV hV2 hn
      generalize atV p = V at *
      go_enter Try.func73, Try.ntmps73
      go_wp2_with (go_at_call 12; (with_reducible refine (HO.out _).mono ?_); rintro r1 y1 ⟨rfl, rfl⟩)
      go_ret
      exact ⟨rfl, rfl⟩
    · have t2 : decide (p ≤ 2139095041) = false := decide_eq_false (by omega)
      by_cases c3 : 4278190082 < p
      · have hV : atV p = 2139095040 := by unfold atV; rw [if_neg c1, if_neg c2, if_pos c3]
        have HO := Lib.hid (fun W => of_word 2139095040 (by decide) W)
        rw [hV]
        have t3 : decide (4278190082 < p) = true := decide_eq_true c3
        clear hV
        go_enter Try.func73, Try.ntmps73
        go_wp2_with (go_at_call 12; (refine (of_word 2139095040 (by decide) _).mono ?_); rintro r1 y1 ⟨rfl, rfl⟩)
        all_goals first
          | (exfalso; omega)
          | (go_ret; exact ⟨rfl, rfl⟩)
      · have hV : ((atV p : Nat) : Int) = p - 2139095042 := by
          unfold atV; rw [if_neg c1, if_neg c2, if_neg c3]; omega
        have hn : nanW (atV p) = false := nan_le (by omega)
        have HO := Lib.hid (fun W => of_word (atV p) hn W)
        have e1 : p - 2139095040 - 2 = ((atV p : Nat) : Int) := by omega
        rw [← e1] at HO
        clear hV hn e1
        generalize atV p = V at *
        go_enter Try.func73, Try.ntmps73
        go_wp2_with (go_at_call 12; (with_reducible refine (HO.out _).mono ?_); rintro r1 y1 ⟨rfl, rfl⟩)
        all_goals first
          | (exfalso; omega)
          | (go_ret; exact ⟨rfl, rfl⟩)
set_option maxRecDepth 100000 in
theorem rat_any (p : Int) (h1 : -1 ≤ p) (h2 : p ≤ 4278190083) (w : World) : Calls Try.prog 74 #[.int .i64 p] w fun r w' => r = .returned (.int .u32 ((atV p : Nat) : Int)) ∧ w = w' := by
  by_cases c1 : p < 1
  · have HV := Lib.hid (show atV p = 2143289344 by unfold atV; rw [if_pos c1])
    have t1 : decide (p < 1) = true := decide_eq_true c1
    clear c1
    generalize atV p = V at *
    go_enter Try.func74, Try.ntmps74
    go_wp2
    go_ret
    exact ⟨by rw [HV.out]; rfl, rfl⟩
  · have t1 : decide (p < 1) = false := decide_eq_false c1
    by_cases c2 : p < 2139095042
    · have t2 : decide (p < 2139095042) = true := decide_eq_true c2
      have hV : atV p = wd true (2139095041 - p).toNat := by unfold atV; rw [if_neg c1, if_pos c2]
      obtain ⟨r, hr⟩ : ∃ r : Nat, r = (2139095041 - p).toNat := ⟨_, rfl⟩
      rw [← hr] at hV
      have hor := sign_or true r (by omega)
      have hor2 : bits .or .u32 2147483648 (r : Int) = ((wd true r : Nat) : Int) := hor
      rw [← hV] at hor2
      have hw1 : IntKind.i64.wrap (2139095041 - p) = 2139095041 - p := by rw [IntKind.wrap_i64]; omega
      have hw2 : IntKind.u32.wrap (2139095041 - p) = (r : Int) := by rw [IntKind.wrap_u32]; omega
      clear hV hor hr
      generalize atV p = V at *
      go_enter Try.func74, Try.ntmps74
      go_wp2
      go_ret
      exact ⟨by rw [← hor2]; rfl, rfl⟩
    · have t2 : decide (p < 2139095042) = false := decide_eq_false c2
      by_cases c3 : 4278190082 < p
      · have t3 : decide (p > 4278190082) = true := decide_eq_true c3
        have HV := Lib.hid (show atV p = 2139095040 by unfold atV; rw [if_neg c1, if_neg c2, if_pos c3])
        clear c1 c2 c3
        generalize atV p = V at *
        go_enter Try.func74, Try.ntmps74
        go_wp2
        go_ret
        exact ⟨by rw [HV.out]; rfl, rfl⟩
      · have t3 : decide (p > 4278190082) = false := decide_eq_false c3
        have hV : ((atV p : Nat) : Int) = p - 2139095042 := by
          unfold atV; rw [if_neg c1, if_neg c2, if_neg c3]; omega
        have hw1 : IntKind.i64.wrap (p - 2) = p - 2 := by rw [IntKind.wrap_i64]; omega
        have hw2 : IntKind.i64.wrap (p - 2 - 2139095040) = p - 2 - 2139095040 := by rw [IntKind.wrap_i64]; omega
        have hw3 : IntKind.u32.wrap (p - 2 - 2139095040) = ((atV p : Nat) : Int) := by rw [IntKind.wrap_u32, hV]; omega
        clear hV
        generalize atV p = V at *
        go_enter Try.func74, Try.ntmps74
        go_wp2
        go_ret
        exact ⟨by first | rfl | (rw [← hw3]; rfl), rfl⟩
end Go.Proofs.Ytoaecmoihbifoaa
