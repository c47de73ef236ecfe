/-
  Layer 3: whole numbers out of reals, the reference.
-/
import Derived.Test.YtoaecmoihbifoaaOh
namespace Go.Proofs.Ytoaecmoihbifoaa
open Go.RowKit Go.K Go.R
set_option linter.unusedVariables false
set_option linter.unusedSimpArgs false
theorem wN_one (r : Nat) (h : r < 2139095040) : decide (0 < wN (pm r) (pe r)) = !decide (r < 1065353216) := by
  rw [Bool.eq_iff_iff, Bool.not_eq_true', decide_eq_true_iff, decide_eq_false_iff_not]
  have hm := pm_lt r
  unfold wN
  by_cases h0 : 0 ≤ pe r
  · have hr : ¬ r < 1065353216 := by
      intro hr
      have := pe_of (r := r) (t := 0) (by omega)
      unfold pe at h0
      split at h0 <;> omega
    have hp : 0 < pm r := pm_pos (by omega)
    rw [if_pos h0]
    have h3 : 0 < pm r * 2 ^ (pe r).toNat := Nat.mul_pos hp (Nat.two_pow_pos _)
    split
    · exact ⟨fun _ => hr, fun _ => by decide⟩
    · exact ⟨fun _ => hr, fun _ => h3⟩
  · rw [if_neg h0]
    by_cases hr : r < 1065353216
    · have he : pe r ≤ -24 := by
        unfold pe
        split
        · omega
        · have : r / 8388608 < 127 := by omega
          omega
      have hz : pm r / 2 ^ (-pe r).toNat = 0 := by
        refine Nat.div_eq_of_lt ?_
        have h2 : (2 : Nat) ^ 24 ≤ 2 ^ (-pe r).toNat := Nat.pow_le_pow_right (by decide) (by omega)
        have h3 : (2 : Nat) ^ 24 = 16777216 := by decide
        omega
      split
      · exact ⟨fun h => absurd h (by decide), fun h => absurd hr h⟩
      · rw [hz]; exact ⟨fun h => absurd h (by decide), fun h => absurd hr h⟩
    · have he : -23 ≤ pe r := by
        unfold pe
        rw [if_neg (by omega)]
        have : 127 ≤ r / 8388608 := by omega
        omega
      have hmm : 8388608 ≤ pm r := by unfold pm; rw [if_neg (by omega)]; omega
      rw [if_neg (by omega)]
      have hz : 1 ≤ pm r / 2 ^ (-pe r).toNat := by
        rw [Nat.le_div_iff_mul_le (Nat.two_pow_pos _), Nat.one_mul]
        have h2 : (2 : Nat) ^ (-pe r).toNat ≤ 2 ^ 23 := Nat.pow_le_pow_right (by decide) (by omega)
        have h3 : (2 : Nat) ^ 23 = 8388608 := by decide
        omega
      exact ⟨fun _ => hr, fun _ => hz⟩
theorem okU_val {x : Nat} (h : okU x = true) : rg x < 2139095040 ∧ pe (rg x) ≤ 40 ∧ ivV x = ((wN (pm (rg x)) (pe (rg x)) : Nat) : Int) ∧ wN (pm (rg x)) (pe (rg x)) < 18446744073709551616 ∧ (key x < 1593835520 → wN (pm (rg x)) (pe (rg x)) < 9223372036854775808) ∧ -1065353216 < key x ∧ key x < 1602224128 := by
  unfold okU at h
  rw [Bool.and_eq_true, Bool.and_eq_true, Bool.or_eq_true] at h
  obtain ⟨⟨h1, h2⟩, h3⟩ := h
  have hf : rg x < 2139095040 := of_decide_eq_true h1
  have hr : rg x < 1602224128 := of_decide_eq_true h2
  have he := pe_of (r := rg x) (t := 40) (by omega)
  have hn := (wN_le (pm (rg x)) (pe (rg x)) (pm_lt _) 40 he).resolve_right (by omega)
  rw [p40] at hn
  have ho := wN_one (rg x) hf
  cases hs : sgn x
  · have hk : key x = (rg x : Int) := by unfold key; rw [hs]; rfl
    have hv : ivV x = ((wN (pm (rg x)) (pe (rg x)) : Nat) : Int) := by unfold ivV; rw [hs]; rfl
    refine ⟨hf, he, hv, hn, fun hlt => ?_, by omega, by omega⟩
    have he2 := pe_of (r := rg x) (t := 39) (by omega)
    have hn2 := (wN_le (pm (rg x)) (pe (rg x)) (pm_lt _) 39 he2).resolve_right (by omega)
    rw [p39] at hn2
    exact hn2
  · rw [hs] at h3
    have h4 : rg x < 1065353216 := of_decide_eq_true (h3.resolve_left (by decide))
    rw [decide_eq_true h4] at ho
    have hz : wN (pm (rg x)) (pe (rg x)) = 0 := by
      have := of_decide_eq_false ho
      omega
    have hk : key x = -(rg x : Int) := by unfold key; rw [hs]; rfl
    refine ⟨hf, he, ?_, hn, fun _ => by rw [hz]; decide, by omega, by omega⟩
    unfold ivV; rw [hs, hz]; rfl
theorem puint_any (x : Nat) (hx : x < 4294967296) (w : World) : Calls Try.prog 29 #[.float .f32 x] w fun r w' => r = .returned (.tuple #[.int .u64 (if okU x then ((wN (pm (rg x)) (pe (rg x)) : Nat) : Int) else 0), .int .i64 (if okU x then 0 else 2)]) ∧ w = w' := by
  cases ho : okU x
  · rw [if_neg (by decide), if_neg (by decide)]
    refine puint_err x w ?_
    by_cases hn : nanW x = true
    · exact .inl (.inl (order_nan _ hn))
    · have hle : rg x ≤ 2139095040 := by
        rw [nanW_rg] at hn
        have := of_decide_eq_false (Bool.not_eq_true _ ▸ hn)
        omega
      by_cases hi : rg x = 2139095040
      · rw [order_inf hi (by decide), order_inf hi (by decide)]
        cases sgn x
        · exact .inr ⟨rfl, .inl rfl⟩
        · exact .inl (.inr (.inl rfl))
      · have hf : rg x < 2139095040 := by omega
        rw [fin_order hf (by decide), fin_order hf (by decide), kn_3, kn_4]
        have hc : key x ≤ -1065353216 ∨ 1602224128 ≤ key x := by
          unfold okU finW at ho
          rw [decide_eq_true hf, Bool.true_and] at ho
          unfold key
          by_cases hr : rg x < 1602224128
          · rw [decide_eq_true hr, Bool.true_and] at ho
            cases hs : sgn x
            · rw [hs] at ho; cases ho
            · rw [hs] at ho
              have h4 : ¬ rg x < 1065353216 := of_decide_eq_false (by simpa using ho)
              left; rw [if_pos rfl]; omega
          · cases hs : sgn x
            · right; rw [if_neg (by decide)]; omega
            · left; rw [if_pos rfl]; omega
        rcases hc with h | h
        · left
          by_cases he : key x = -1065353216
          · exact .inr (.inr (congrArg some (cmp_eq he)))
          · exact .inr (.inl (congrArg some (cmp_lt (by omega))))
        · refine .inr ⟨congrArg some (cmp_gt (by omega)), ?_⟩
          by_cases he : key x = 1602224128
          · exact .inr (congrArg some (cmp_eq he))
          · exact .inl (congrArg some (cmp_gt (by omega)))
  · obtain ⟨h1, h2, h3, h4, h5, h6, h7⟩ := okU_val ho
    rw [if_pos rfl, if_pos rfl]
    have o1 : FloatKind.f32.format.order x 3212836864 = some .gt := by rw [fin_order h1 (by decide), kn_3]; exact congrArg some (cmp_gt h6)
    have o2 : FloatKind.f32.format.order x 1602224128 = some .lt := by rw [fin_order h1 (by decide), kn_4]; exact congrArg some (cmp_lt h7)
    have o3 : FloatKind.f32.format.order x 1593835520 = some (compare (key x) 1593835520) := by rw [fin_order h1 (by decide), kn_2]
    rw [← h3]
    have m1 : IntKind.i64.min = -9223372036854775808 := by decide
    have m2 : IntKind.i64.max = 9223372036854775807 := by decide
    have m3 : IntKind.u64.min = 0 := by decide
    have m4 : IntKind.u64.max = 18446744073709551615 := by decide
    by_cases hk : key x < 1593835520
    · have h8 := h5 hk
      rw [cmp_lt hk] at o3
      exact puint_small x _ w o1 o2 o3 (to_int .i64 h1 h2 (by rw [m1]; omega) (by rw [m2]; omega)) (by rw [IntKind.wrap_u64]; omega)
    · refine puint_big x _ w o1 o2 ?_ (to_int .u64 h1 h2 (by rw [m3]; omega) (by rw [m4]; omega))
      rw [o3]
      by_cases he : key x = 1593835520
      · exact .inr (congrArg some (cmp_eq he))
      · exact .inl (congrArg some (cmp_gt (by omega)))
end Go.Proofs.Ytoaecmoihbifoaa
