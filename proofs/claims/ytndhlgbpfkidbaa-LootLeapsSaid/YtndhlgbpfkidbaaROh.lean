/-
  Reals: from chapter 3's Oh, what is needed here.
-/
import Derived.Test.YtndhlgbpfkidbaaROg
namespace Go.Proofs.Ytndhlgbpfkidbaa.n03
open Go.RowKit Go.K Go.R
set_option linter.unusedVariables false
set_option linter.unusedSimpArgs false
theorem run_toInt {w : World} {x : Nat} {v : Int} (h : floatToIntVal .f32 x .i64 = some v) : (convert 58 3 (.float .f32 x)).run Try.prog w = .ok (.int .i64 v) w :=
  run_convert_float_int w 58 3 .f32 .i64 x v (by kernel_rfl) (by kernel_rfl) h
theorem pint_ok (x : Nat) (v : Int) (w : World) (o1 : FloatKind.f32.format.order x 3741319168 = some .gt ∨ FloatKind.f32.format.order x 3741319168 = some .eq) (o2 : FloatKind.f32.format.order x 1593835520 = some .lt) (hv : floatToIntVal .f32 x .i64 = some v) :
    Calls Try.prog 45 #[.float .f32 x] w fun r w' => r = .returned (.tuple #[.int .i64 v, .int .i64 0]) ∧ w = w' := by
  have hr := run_toInt (w := w) hv
  clear hv
  rcases o1 with o1 | o1
  · go_enter Try.func45, Try.ntmps45
    go_wp2
    go_ret2
    exact ⟨rfl, rfl⟩
  · go_enter Try.func45, Try.ntmps45
    go_wp2
    go_ret2
    exact ⟨rfl, rfl⟩
theorem pint_err (x : Nat) (w : World) (o : (FloatKind.f32.format.order x 3741319168 = none ∨ FloatKind.f32.format.order x 3741319168 = some .lt) ∨ (FloatKind.f32.format.order x 3741319168 = some .gt ∧ (FloatKind.f32.format.order x 1593835520 = some .gt ∨ FloatKind.f32.format.order x 1593835520 = some .eq))) :
    Calls Try.prog 45 #[.float .f32 x] w fun r w' => r = .returned (.tuple #[.int .i64 0, .int .i64 2]) ∧ w = w' := by
  rcases o with (o1 | o1) | ⟨o1, o2 | o2⟩
  · go_enter Try.func45, Try.ntmps45
    go_wp2
    go_ret2
    exact ⟨rfl, rfl⟩
  · go_enter Try.func45, Try.ntmps45
    go_wp2
    go_ret2
    exact ⟨rfl, rfl⟩
  · go_enter Try.func45, Try.ntmps45
    go_wp2
    go_ret2
    exact ⟨rfl, rfl⟩
  · go_enter Try.func45, Try.ntmps45
    go_wp2
    go_ret2
    exact ⟨rfl, rfl⟩
/-- Is there a whole number of 64 bits? -/
def okI (x : Nat) : Bool := finW x && (decide (rg x < 1593835520) || x == 3741319168)
theorem kn_1 : key 3741319168 = -1593835520 := by decide
theorem kn_2 : key 1593835520 = 1593835520 := by decide
theorem cmp_lt {a b : Int} (h : a < b) : compare a b = .lt := by
  show compareOfLessAndEq a b = .lt
  unfold compareOfLessAndEq; rw [if_pos h]
theorem cmp_eq {a b : Int} (h : a = b) : compare a b = .eq := by
  show compareOfLessAndEq a b = .eq
  unfold compareOfLessAndEq; rw [if_neg (by omega), if_pos h]
theorem cmp_gt {a b : Int} (h : b < a) : compare a b = .gt := by
  show compareOfLessAndEq a b = .gt
  unfold compareOfLessAndEq; rw [if_neg (by omega), if_neg (by omega)]
theorem p39 : 16777216 * 2 ^ 39 = 9223372036854775808 := by decide
theorem okI_val {x : Nat} (hx : x < 4294967296) (h : okI x = true) : rg x < 2139095040 ∧ pe (rg x) ≤ 40 ∧ -9223372036854775808 ≤ ivV x ∧ ivV x ≤ 9223372036854775807 ∧ -1593835520 ≤ key x ∧ key x < 1593835520 := by
  unfold okI at h
  rw [Bool.and_eq_true, Bool.or_eq_true] at h
  obtain ⟨h1, h2⟩ := h
  have hf : rg x < 2139095040 := of_decide_eq_true h1
  rcases h2 with h2 | h2
  · have hr : rg x < 1593835520 := of_decide_eq_true h2
    have he := pe_of (r := rg x) (t := 39) (by omega)
    have hn := (wN_le (pm (rg x)) (pe (rg x)) (pm_lt _) 39 he).resolve_right (by omega)
    rw [p39] at hn
    refine ⟨hf, by omega, ?_, ?_, ?_, ?_⟩
    · unfold ivV; split <;> omega
    · unfold ivV; split <;> omega
    · unfold key; split <;> omega
    · unfold key; split <;> omega
  · have hx0 : x = 3741319168 := by simpa using h2
    subst hx0
    refine ⟨hf, by decide, by decide, by decide, by decide, by decide⟩
theorem okI_not {x : Nat} (hx : x < 4294967296) (hf : rg x < 2139095040) (h : okI x = false) : key x < -1593835520 ∨ 1593835520 ≤ key x := by
  unfold okI finW at h
  rw [decide_eq_true hf, Bool.true_and, Bool.or_eq_false_iff] at h
  obtain ⟨h1, h2⟩ := h
  have h3 : ¬ rg x < 1593835520 := of_decide_eq_false h1
  have hk := kind_word hx
  unfold key
  cases hs : sgn x
  · right; rw [if_neg (by decide)]; omega
  · left
    rw [if_pos rfl]
    have h4 : rg x ≠ 1593835520 := by
      intro h5
      rw [hs, h5] at hk
      have h6 : x = 3741319168 := hk
      rw [h6] at h2
      exact absurd h2 (by decide)
    omega
theorem pint_any (x : Nat) (hx : x < 4294967296) (w : World) : Calls Try.prog 45 #[.float .f32 x] w fun r w' => r = .returned (.tuple #[.int .i64 (if okI x then ivV x else 0), .int .i64 (if okI x then 0 else 2)]) ∧ w = w' := by
  cases ho : okI x
  · rw [if_neg (by decide), if_neg (by decide)]
    refine pint_err x w ?_
    by_cases hn : nanW x = true
    · exact .inl (.inl (order_nan _ hn))
    · have hle : rg x ≤ 2139095040 := by
        rw [nanW_rg] at hn
        have := of_decide_eq_false (Bool.not_eq_true _ ▸ hn)
        omega
      by_cases hi : rg x = 2139095040
      · rw [order_inf hi (by decide), order_inf hi (by decide)]
        cases sgn x
        · exact .inr ⟨rfl, .inl rfl⟩
        · exact .inl (.inr rfl)
      · have hf : rg x < 2139095040 := by omega
        rw [fin_order hf (by decide), fin_order hf (by decide), kn_1, kn_2]
        rcases okI_not hx hf ho with h | h
        · exact .inl (.inr (congrArg some (cmp_lt h)))
        · refine .inr ⟨congrArg some (cmp_gt (by omega)), ?_⟩
          by_cases he : key x = 1593835520
          · exact .inr (congrArg some (cmp_eq he))
          · exact .inl (congrArg some (cmp_gt (by omega)))
  · obtain ⟨h1, h2, h3, h4, h5, h6⟩ := okI_val hx ho
    rw [if_pos rfl, if_pos rfl]
    refine pint_ok x _ w ?_ ?_ (to_int .i64 h1 h2 h3 h4)
    · rw [fin_order h1 (by decide), kn_1]
      by_cases he : key x = -1593835520
      · exact .inr (congrArg some (cmp_eq he))
      · exact .inl (congrArg some (cmp_gt (by omega)))
    · rw [fin_order h1 (by decide), kn_2]
      exact congrArg some (cmp_lt h6)
end Go.Proofs.Ytndhlgbpfkidbaa.n03

