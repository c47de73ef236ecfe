/-
  Layer 3: whole numbers out of reals, the reference, walked.
-/
import Derived.Test.YtoaecmoihbifoaaOi
namespace Go.Proofs.Ytoaecmoihbifoaa
open Go.RowKit Go.K Go.R
set_option linter.unusedVariables false
set_option linter.unusedSimpArgs false
set_option maxRecDepth 100000 in
theorem rint_err (x a g N : Nat) (c : Int) (f l ge ne : Bool) (w : World) (HCX : Hid (∀ W, Calls Try.prog 10 #[.int .u32 (x : Int)] W fun r w' => r = .returned (.int .u32 (a : Int)) ∧ W = w')) (HFX : Hid (∀ W, Calls Try.prog 53 #[.int .u32 (a : Int)] W fun r w' => r = .returned (.bool f) ∧ W = w'))
    (HWX : Hid (∀ W, Calls Try.prog 63 #[.int .u32 (a : Int)] W fun r w' => r = .returned (.tuple #[.int .u64 (N : Int), .int .i64 c, .bool l]) ∧ W = w'))
    (hg : bits .and .u32 (a : Int) 2147483647 = (g : Int)) (tg : decide ((g : Int) ≥ 1593835520) = ge) (tn : ((a : Int) != 3741319168) = ne) (hc : f = false ∨ ge = true ∧ ne = true) :
    Calls Try.prog 28 #[.int .u32 (x : Int)] w fun r w' => r = .returned (.tuple #[.int .i64 0, .int .i64 2]) ∧ w = w' := by
  cases f
  · clear hc
    go_enter Try.func28, Try.ntmps28
    go_wp2_with ((first | (go_at_call 10; (with_reducible refine (HCX.out _).mono ?_); rintro r1 y1 ⟨rfl, rfl⟩) | (go_at_call 53; (with_reducible refine (HFX.out _).mono ?_); rintro r1 y1 ⟨rfl, rfl⟩) | (go_at_call 63; (with_reducible refine (HWX.out _).mono ?_); rintro r1 y1 ⟨rfl, rfl⟩)))
    go_ret2
    exact ⟨rfl, rfl⟩
  · obtain ⟨rfl, rfl⟩ := hc.resolve_left (by decide)
    clear hc
    go_enter Try.func28, Try.ntmps28
    go_wp2_with ((first | (go_at_call 10; (with_reducible refine (HCX.out _).mono ?_); rintro r1 y1 ⟨rfl, rfl⟩) | (go_at_call 53; (with_reducible refine (HFX.out _).mono ?_); rintro r1 y1 ⟨rfl, rfl⟩) | (go_at_call 63; (with_reducible refine (HWX.out _).mono ?_); rintro r1 y1 ⟨rfl, rfl⟩)))
    go_ret2
    exact ⟨rfl, rfl⟩
set_option maxRecDepth 100000 in
theorem rint_ff (x a g N S : Nat) (c : Int) (l f : Bool) (w : World) (hf : f = true) (HCX : Hid (∀ W, Calls Try.prog 10 #[.int .u32 (x : Int)] W fun r w' => r = .returned (.int .u32 (a : Int)) ∧ W = w')) (HFX : Hid (∀ W, Calls Try.prog 53 #[.int .u32 (a : Int)] W fun r w' => r = .returned (.bool f) ∧ W = w'))
    (HWX : Hid (∀ W, Calls Try.prog 63 #[.int .u32 (a : Int)] W fun r w' => r = .returned (.tuple #[.int .u64 (N : Int), .int .i64 c, .bool l]) ∧ W = w'))
    (hg : bits .and .u32 (a : Int) 2147483647 = (g : Int)) (tg : decide ((g : Int) ≥ 1593835520) = false)  (hS : bits .and .u32 (a : Int) 2147483648 = (S : Int)) (tS : ((S : Int) != 0) = false) :
    Calls Try.prog 28 #[.int .u32 (x : Int)] w fun r w' => r = .returned (.tuple #[.int .i64 (wrap64 (N : Int)), .int .i64 0]) ∧ w = w' := by
  subst hf
  go_enter Try.func28, Try.ntmps28
  go_wp2_with ((first | (go_at_call 10; (with_reducible refine (HCX.out _).mono ?_); rintro r1 y1 ⟨rfl, rfl⟩) | (go_at_call 53; (with_reducible refine (HFX.out _).mono ?_); rintro r1 y1 ⟨rfl, rfl⟩) | (go_at_call 63; (with_reducible refine (HWX.out _).mono ?_); rintro r1 y1 ⟨rfl, rfl⟩)))
  go_ret2
  exact ⟨rfl, rfl⟩
set_option maxRecDepth 100000 in
theorem rint_ft (x a g N S : Nat) (c : Int) (l f : Bool) (w : World) (hf : f = true) (HCX : Hid (∀ W, Calls Try.prog 10 #[.int .u32 (x : Int)] W fun r w' => r = .returned (.int .u32 (a : Int)) ∧ W = w')) (HFX : Hid (∀ W, Calls Try.prog 53 #[.int .u32 (a : Int)] W fun r w' => r = .returned (.bool f) ∧ W = w'))
    (HWX : Hid (∀ W, Calls Try.prog 63 #[.int .u32 (a : Int)] W fun r w' => r = .returned (.tuple #[.int .u64 (N : Int), .int .i64 c, .bool l]) ∧ W = w'))
    (hg : bits .and .u32 (a : Int) 2147483647 = (g : Int)) (tg : decide ((g : Int) ≥ 1593835520) = true) (tn : ((a : Int) != 3741319168) = false) (hS : bits .and .u32 (a : Int) 2147483648 = (S : Int)) (tS : ((S : Int) != 0) = false) :
    Calls Try.prog 28 #[.int .u32 (x : Int)] w fun r w' => r = .returned (.tuple #[.int .i64 (wrap64 (N : Int)), .int .i64 0]) ∧ w = w' := by
  subst hf
  go_enter Try.func28, Try.ntmps28
  go_wp2_with ((first | (go_at_call 10; (with_reducible refine (HCX.out _).mono ?_); rintro r1 y1 ⟨rfl, rfl⟩) | (go_at_call 53; (with_reducible refine (HFX.out _).mono ?_); rintro r1 y1 ⟨rfl, rfl⟩) | (go_at_call 63; (with_reducible refine (HWX.out _).mono ?_); rintro r1 y1 ⟨rfl, rfl⟩)))
  go_ret2
  exact ⟨rfl, rfl⟩
set_option maxRecDepth 100000 in
theorem rint_tf (x a g N S : Nat) (c : Int) (l f : Bool) (w : World) (hf : f = true) (HCX : Hid (∀ W, Calls Try.prog 10 #[.int .u32 (x : Int)] W fun r w' => r = .returned (.int .u32 (a : Int)) ∧ W = w')) (HFX : Hid (∀ W, Calls Try.prog 53 #[.int .u32 (a : Int)] W fun r w' => r = .returned (.bool f) ∧ W = w'))
    (HWX : Hid (∀ W, Calls Try.prog 63 #[.int .u32 (a : Int)] W fun r w' => r = .returned (.tuple #[.int .u64 (N : Int), .int .i64 c, .bool l]) ∧ W = w'))
    (hg : bits .and .u32 (a : Int) 2147483647 = (g : Int)) (tg : decide ((g : Int) ≥ 1593835520) = false)  (hS : bits .and .u32 (a : Int) 2147483648 = (S : Int)) (tS : ((S : Int) != 0) = true) :
    Calls Try.prog 28 #[.int .u32 (x : Int)] w fun r w' => r = .returned (.tuple #[.int .i64 (wrap64 (IntKind.u64.wrap (-(N : Int)))), .int .i64 0]) ∧ w = w' := by
  subst hf
  go_enter Try.func28, Try.ntmps28
  go_wp2_with ((first | (go_at_call 10; (with_reducible refine (HCX.out _).mono ?_); rintro r1 y1 ⟨rfl, rfl⟩) | (go_at_call 53; (with_reducible refine (HFX.out _).mono ?_); rintro r1 y1 ⟨rfl, rfl⟩) | (go_at_call 63; (with_reducible refine (HWX.out _).mono ?_); rintro r1 y1 ⟨rfl, rfl⟩)))
  go_ret2
  exact ⟨rfl, rfl⟩
set_option maxRecDepth 100000 in
theorem rint_tt (x a g N S : Nat) (c : Int) (l f : Bool) (w : World) (hf : f = true) (HCX : Hid (∀ W, Calls Try.prog 10 #[.int .u32 (x : Int)] W fun r w' => r = .returned (.int .u32 (a : Int)) ∧ W = w')) (HFX : Hid (∀ W, Calls Try.prog 53 #[.int .u32 (a : Int)] W fun r w' => r = .returned (.bool f) ∧ W = w'))
    (HWX : Hid (∀ W, Calls Try.prog 63 #[.int .u32 (a : Int)] W fun r w' => r = .returned (.tuple #[.int .u64 (N : Int), .int .i64 c, .bool l]) ∧ W = w'))
    (hg : bits .and .u32 (a : Int) 2147483647 = (g : Int)) (tg : decide ((g : Int) ≥ 1593835520) = true) (tn : ((a : Int) != 3741319168) = false) (hS : bits .and .u32 (a : Int) 2147483648 = (S : Int)) (tS : ((S : Int) != 0) = true) :
    Calls Try.prog 28 #[.int .u32 (x : Int)] w fun r w' => r = .returned (.tuple #[.int .i64 (wrap64 (IntKind.u64.wrap (-(N : Int)))), .int .i64 0]) ∧ w = w' := by
  subst hf
  go_enter Try.func28, Try.ntmps28
  go_wp2_with ((first | (go_at_call 10; (with_reducible refine (HCX.out _).mono ?_); rintro r1 y1 ⟨rfl, rfl⟩) | (go_at_call 53; (with_reducible refine (HFX.out _).mono ?_); rintro r1 y1 ⟨rfl, rfl⟩) | (go_at_call 63; (with_reducible refine (HWX.out _).mono ?_); rintro r1 y1 ⟨rfl, rfl⟩)))
  go_ret2
  exact ⟨rfl, rfl⟩
set_option maxRecDepth 100000 in
theorem ruint_err (x a g N S : Nat) (c : Int) (f l ge s p : Bool) (w : World) (HCX : Hid (∀ W, Calls Try.prog 10 #[.int .u32 (x : Int)] W fun r w' => r = .returned (.int .u32 (a : Int)) ∧ W = w')) (HFX : Hid (∀ W, Calls Try.prog 53 #[.int .u32 (a : Int)] W fun r w' => r = .returned (.bool f) ∧ W = w'))
    (HWX : Hid (∀ W, Calls Try.prog 63 #[.int .u32 (a : Int)] W fun r w' => r = .returned (.tuple #[.int .u64 (N : Int), .int .i64 c, .bool l]) ∧ W = w'))
    (hg : bits .and .u32 (a : Int) 2147483647 = (g : Int)) (tg : decide ((g : Int) ≥ 1602224128) = ge) (hS : bits .and .u32 (a : Int) 2147483648 = (S : Int)) (tS : ((S : Int) != 0) = s) (tp : decide ((N : Int) > 0) = p) (tp2 : decide (0 < N) = p) (hc : f = false ∨ ge = true ∨ s = true ∧ p = true) :
    Calls Try.prog 30 #[.int .u32 (x : Int)] w fun r w' => r = .returned (.tuple #[.int .u64 0, .int .i64 2]) ∧ w = w' := by
  cases f
  · clear hc
    go_enter Try.func30, Try.ntmps30
    go_wp2_with ((first | (go_at_call 10; (with_reducible refine (HCX.out _).mono ?_); rintro r1 y1 ⟨rfl, rfl⟩) | (go_at_call 53; (with_reducible refine (HFX.out _).mono ?_); rintro r1 y1 ⟨rfl, rfl⟩) | (go_at_call 63; (with_reducible refine (HWX.out _).mono ?_); rintro r1 y1 ⟨rfl, rfl⟩)))
    go_ret2
    exact ⟨rfl, rfl⟩
  · replace hc := hc.resolve_left (by decide)
    cases ge
    · obtain ⟨rfl, rfl⟩ := hc.resolve_left (by decide)
      clear hc
      go_enter Try.func30, Try.ntmps30
      go_wp2_with ((first | (go_at_call 10; (with_reducible refine (HCX.out _).mono ?_); rintro r1 y1 ⟨rfl, rfl⟩) | (go_at_call 53; (with_reducible refine (HFX.out _).mono ?_); rintro r1 y1 ⟨rfl, rfl⟩) | (go_at_call 63; (with_reducible refine (HWX.out _).mono ?_); rintro r1 y1 ⟨rfl, rfl⟩)))
      go_ret2
      exact ⟨rfl, rfl⟩
    · clear hc
      go_enter Try.func30, Try.ntmps30
      go_wp2_with ((first | (go_at_call 10; (with_reducible refine (HCX.out _).mono ?_); rintro r1 y1 ⟨rfl, rfl⟩) | (go_at_call 53; (with_reducible refine (HFX.out _).mono ?_); rintro r1 y1 ⟨rfl, rfl⟩) | (go_at_call 63; (with_reducible refine (HWX.out _).mono ?_); rintro r1 y1 ⟨rfl, rfl⟩)))
      go_ret2
      exact ⟨rfl, rfl⟩
set_option maxRecDepth 100000 in
theorem ruint_ok (x a g N S : Nat) (c : Int) (l s p f : Bool) (w : World) (hf : f = true) (HCX : Hid (∀ W, Calls Try.prog 10 #[.int .u32 (x : Int)] W fun r w' => r = .returned (.int .u32 (a : Int)) ∧ W = w')) (HFX : Hid (∀ W, Calls Try.prog 53 #[.int .u32 (a : Int)] W fun r w' => r = .returned (.bool f) ∧ W = w'))
    (HWX : Hid (∀ W, Calls Try.prog 63 #[.int .u32 (a : Int)] W fun r w' => r = .returned (.tuple #[.int .u64 (N : Int), .int .i64 c, .bool l]) ∧ W = w'))
    (hg : bits .and .u32 (a : Int) 2147483647 = (g : Int)) (tg : decide ((g : Int) ≥ 1602224128) = false) (hS : bits .and .u32 (a : Int) 2147483648 = (S : Int)) (tS : ((S : Int) != 0) = s) (tp : decide ((N : Int) > 0) = p) (tp2 : decide (0 < N) = p) (hc : s = false ∨ p = false) :
    Calls Try.prog 30 #[.int .u32 (x : Int)] w fun r w' => r = .returned (.tuple #[.int .u64 (N : Int), .int .i64 0]) ∧ w = w' := by
  subst hf
  cases s
  · clear hc
    go_enter Try.func30, Try.ntmps30
    go_wp2_with ((first | (go_at_call 10; (with_reducible refine (HCX.out _).mono ?_); rintro r1 y1 ⟨rfl, rfl⟩) | (go_at_call 53; (with_reducible refine (HFX.out _).mono ?_); rintro r1 y1 ⟨rfl, rfl⟩) | (go_at_call 63; (with_reducible refine (HWX.out _).mono ?_); rintro r1 y1 ⟨rfl, rfl⟩)))
    go_ret2
    exact ⟨rfl, rfl⟩
  · obtain rfl := hc.resolve_left (by decide)
    clear hc
    go_enter Try.func30, Try.ntmps30
    go_wp2_with ((first | (go_at_call 10; (with_reducible refine (HCX.out _).mono ?_); rintro r1 y1 ⟨rfl, rfl⟩) | (go_at_call 53; (with_reducible refine (HFX.out _).mono ?_); rintro r1 y1 ⟨rfl, rfl⟩) | (go_at_call 63; (with_reducible refine (HWX.out _).mono ?_); rintro r1 y1 ⟨rfl, rfl⟩)))
    go_ret2
    exact ⟨rfl, rfl⟩
theorem and_rg (x : Nat) : bits .and .u32 (x : Int) 2147483647 = ((rg x : Nat) : Int) := and_low x
theorem rint_any (x : Nat) (hx : x < 4294967296) (w : World) : Calls Try.prog 28 #[.int .u32 (x : Int)] w fun r w' => r = .returned (.tuple #[.int .i64 (if okI x then ivV x else 0), .int .i64 (if okI x then 0 else 2)]) ∧ w = w' := by
  have lx := cleanW_lt hx
  have HCX := Lib.hid (fun W => rclean_any x W)
  have HFX := Lib.hid (fun W => finite_any (cleanW x) W)
  have HWX := Lib.hid (fun W => whole_any (cleanW x) lx W)
  cases ho : okI x
  · rw [if_neg (by decide), if_neg (by decide)]
    refine rint_err x (cleanW x) (rg (cleanW x)) _ _ _ _ _ _ w HCX HFX HWX (and_rg _) rfl rfl ?_
    obtain ⟨_, cx⟩ := cls3 x hx
    rcases cx with ⟨hnx, hcx⟩ | ⟨hnx, hcx, hnex, ⟨hrx, hfx⟩ | ⟨hrx, hfx⟩⟩
    · left; rw [hcx]; decide
    · left; rw [hcx]; exact hfx
    · right
      rw [hcx]
      unfold okI at ho
      rw [hfx, Bool.true_and, Bool.or_eq_false_iff] at ho
      obtain ⟨h1, h2⟩ := ho
      have h3 : ¬ rg x < 1593835520 := of_decide_eq_false h1
      refine ⟨decide_eq_true (by omega), ?_⟩
      rw [bne_iff_ne]
      intro h4
      have h5 : x = 3741319168 := by omega
      rw [h5] at h2
      exact absurd h2 (by decide)
  · obtain ⟨h1, h2, h3, h4, h5, h6⟩ := okI_val hx ho
    rw [if_pos rfl, if_pos rfl]
    have hnn : nanW x = false := by rw [nanW_rg]; exact decide_eq_false (by omega)
    have hcx : cleanW x = x := cleanW_of hnn
    rw [hcx] at HCX HFX HWX lx
    have hev : ivV x = if sgn x then wrap64 (IntKind.u64.wrap (-((wN (pm (rg x)) (pe (rg x)) : Nat) : Int))) else wrap64 ((wN (pm (rg x)) (pe (rg x)) : Nat) : Int) := by
      unfold ivV at h3 h4 ⊢
      cases hs : sgn x
      · rw [hs, if_neg (by decide)] at h3 h4
        rw [if_neg (by decide), if_neg (by decide)]
        unfold wrap64
        omega
      · rw [hs, if_pos rfl] at h3 h4
        rw [if_pos rfl, if_pos rfl, IntKind.wrap_u64]
        unfold wrap64
        omega
    have hS := sign_and x hx
    unfold okI at ho
    rw [Bool.and_eq_true, Bool.or_eq_true] at ho
    cases hs : sgn x
    · rw [hs] at hS
      rw [hev, hs, if_neg (by decide)]
      by_cases h7 : rg x < 1593835520
      · exact rint_ff x x (rg x) _ _ _ _ _ w (decide_eq_true h1) HCX HFX HWX (and_rg _) (decide_eq_false (by omega)) hS (by decide)
      · have h8 : x = 3741319168 := by
          rcases ho.2 with h | h
          · exact absurd (of_decide_eq_true h) h7
          · simpa using h
        rw [h8] at hs
        exact absurd hs (by decide)
    · rw [hs] at hS
      rw [hev, hs, if_pos rfl]
      by_cases h7 : rg x < 1593835520
      · exact rint_tf x x (rg x) _ _ _ _ _ w (decide_eq_true h1) HCX HFX HWX (and_rg _) (decide_eq_false (by omega)) hS (by decide)
      · have h8 : x = 3741319168 := by
          rcases ho.2 with h | h
          · exact absurd (of_decide_eq_true h) h7
          · simpa using h
        exact rint_tt x x (rg x) _ _ _ _ _ w (decide_eq_true h1) HCX HFX HWX (and_rg _) (decide_eq_true (by omega)) (by rw [bne_eq_false_iff_eq]; omega) hS (by decide)
theorem ruint_any (x : Nat) (hx : x < 4294967296) (w : World) : Calls Try.prog 30 #[.int .u32 (x : Int)] w fun r w' => r = .returned (.tuple #[.int .u64 (if okU x then ((wN (pm (rg x)) (pe (rg x)) : Nat) : Int) else 0), .int .i64 (if okU x then 0 else 2)]) ∧ w = w' := by
  have lx := cleanW_lt hx
  have HCX := Lib.hid (fun W => rclean_any x W)
  have HFX := Lib.hid (fun W => finite_any (cleanW x) W)
  have HWX := Lib.hid (fun W => whole_any (cleanW x) lx W)
  have hp : ∀ n : Nat, decide ((n : Int) > 0) = decide (0 < n) := fun n => by rw [Bool.eq_iff_iff]; simp
  cases ho : okU x
  · rw [if_neg (by decide), if_neg (by decide)]
    refine ruint_err x (cleanW x) (rg (cleanW x)) _ _ _ _ _ _ _ _ w HCX HFX HWX (and_rg _) rfl (sign_and _ lx) rfl rfl (hp _).symm ?_
    obtain ⟨_, cx⟩ := cls3 x hx
    rcases cx with ⟨hnx, hcx⟩ | ⟨hnx, hcx, hnex, ⟨hrx, hfx⟩ | ⟨hrx, hfx⟩⟩
    · left; rw [hcx]; decide
    · left; rw [hcx]; exact hfx
    · right
      rw [hcx]
      unfold okU at ho
      rw [hfx, Bool.true_and] at ho
      by_cases h1 : rg x < 1602224128
      · right
        rw [decide_eq_true h1, Bool.true_and, Bool.or_eq_false_iff] at ho
        obtain ⟨h2, h3⟩ := ho
        have hs : sgn x = true := by simpa using h2
        rw [hs, hp, wN_one (rg x) hrx, h3]
        exact ⟨by decide, rfl⟩
      · left; exact decide_eq_true (by omega)
  · obtain ⟨h1, h2, h3, h4, h5, h6, h7⟩ := okU_val ho
    rw [if_pos rfl, if_pos rfl]
    have hnn : nanW x = false := by rw [nanW_rg]; exact decide_eq_false (by omega)
    have hcx : cleanW x = x := cleanW_of hnn
    rw [hcx] at HCX HFX HWX lx
    unfold okU at ho
    rw [Bool.and_eq_true, Bool.and_eq_true, Bool.or_eq_true] at ho
    obtain ⟨⟨g1, g2⟩, g3⟩ := ho
    have hr : rg x < 1602224128 := of_decide_eq_true g2
    refine ruint_ok x x (rg x) _ _ _ _ _ _ _ w (decide_eq_true h1) HCX HFX HWX (and_rg _) (decide_eq_false (by omega)) (sign_and x hx) rfl rfl (hp _).symm ?_
    rcases g3 with g | g
    · left
      have hs : sgn x = false := by simpa using g
      rw [hs]; decide
    · right
      rw [hp, wN_one (rg x) h1, g]; rfl
end Go.Proofs.Ytoaecmoihbifoaa
