/-
  Layer 3, the reference: rounding to whole numbers.
-/
import Derived.Test.YtoaecmoihbifoaaOe
namespace Go.Proofs.Ytoaecmoihbifoaa
open Go.RowKit Go.K Go.R
open Ieee (Format Datum Toward)
set_option linter.unusedVariables false
set_option linter.unusedSimpArgs false
/-- One more, as the reference tells it. -/
def adjW (way : Toward) (s : Bool) (n : Nat) (c : Int) (l : Bool) : Bool := match way with
  | .zero => false
  | .down => s && l
  | .up => !s && l
  | .even => decide (0 < c) || (c == 0 && n % 2 == 1)
theorem cut_adj (way : Toward) (x : Nat) (he : pe (rg x) < 0) : cutN way x = wN (pm (rg x)) (pe (rg x)) + (adjW way (sgn x) (wN (pm (rg x)) (pe (rg x))) (wC (pm (rg x)) (pe (rg x))) (wL (pm (rg x)) (pe (rg x)))).toNat := by
  have hm := pm_lt (rg x)
  unfold cutN wN wC wL
  generalize pm (rg x) = m at *
  generalize pe (rg x) = e at *
  have h0 : ¬ 0 ≤ e := by omega
  have e1 : e.toNat = 0 := by omega
  rw [if_neg h0, if_neg h0, if_neg h0, cut_way, e1, Nat.shiftLeft_eq, Nat.pow_zero, Nat.mul_one]
  obtain ⟨k, hk⟩ : ∃ k, (-e).toNat = k := ⟨_, rfl⟩
  rw [hk]
  by_cases h1 : e < -40
  · rw [if_pos h1, if_pos h1, if_pos h1]
    have hlt : 2 * m < 2 ^ k := by
      have h2 : (2 : Nat) ^ 40 ≤ 2 ^ k := Nat.pow_le_pow_right (by decide) (by omega)
      have h3 : (2 : Nat) ^ 40 = 1099511627776 := by decide
      rw [h3] at h2
      omega
    rw [Nat.div_eq_of_lt (show m < 2 ^ k by omega)]
    congr 2
    unfold moreW adjW
    rw [Nat.mod_eq_of_lt (show m < 2 ^ k by omega)]
    have b1 : (m != 0) = decide (0 < m) := by rw [Bool.eq_iff_iff]; simp; omega
    cases way
    · have b2 : decide (2 ^ k < 2 * m) = false := decide_eq_false (by omega)
      have b3 : (2 ^ k == 2 * m) = false := by rw [beq_eq_false_iff_ne]; omega
      simp [b2, b3]
    · dsimp only; rw [b1]
    · dsimp only; rw [b1]
    · rfl
  · rw [if_neg h1, if_neg h1, if_neg h1]
    congr 2
    unfold moreW adjW
    have b1 : (m % 2 ^ k != 0) = decide (0 < m % 2 ^ k) := by rw [Bool.eq_iff_iff]; simp; omega
    have hp : (2 : Nat) ^ k = 2 * 2 ^ (k - 1) := by rw [← Nat.pow_succ']; congr 1; omega
    cases way
    · dsimp only
      have b2 : decide (2 ^ k < 2 * (m % 2 ^ k)) = decide (0 < icmp (m % 2 ^ k) (2 ^ (k - 1))) := by
        rw [Bool.eq_iff_iff, decide_eq_true_iff, decide_eq_true_iff, icmp_gt]; omega
      have b3 : (2 ^ k == 2 * (m % 2 ^ k)) = (icmp (m % 2 ^ k) (2 ^ (k - 1)) == 0) := by
        rw [Bool.eq_iff_iff, beq_iff_eq, beq_iff_eq, icmp_eq]; omega
      rw [b2, b3]
    · dsimp only; rw [b1]
    · dsimp only; rw [b1]
    · rfl
theorem wN_lt (m : Nat) (e : Int) (hm : m < 16777216) (he : e < 0) : wN m e < 16777216 := by
  unfold wN
  rw [if_neg (by omega)]
  split
  · decide
  · exact Nat.lt_of_le_of_lt (Nat.div_le_self _ _) hm
theorem rnd_big (way : Toward) (x : Nat) (hx : x < 4294967296) (h : rg x < 2139095040) (hp : 0 ≤ pe (rg x)) : rndV way x = x := by
  have hn : nanW x = false := by rw [nanW_rg]; exact decide_eq_false (by omega)
  have e : sc (-600) (cutN way x) 0 = sc (-600) (pm (rg x)) (pe (rg x)) := by
    rw [cutN_big way x hp, sc_mul (-600) (pm (rg x)) _ 0 (by decide)]; congr 1; omega
  have e2 : Ieee.single.nearest false (cutN way x) 0 = rg x := by
    rw [← nearest_sc (cutN way x) 0 (by decide), e, nearest_sc _ _ (by omega), nearest_self _ h]
  unfold rndV
  rw [hn, if_neg (by decide), if_neg (by omega), e2]
  exact (kind_word hx).symm
theorem rnd_fin (way : Toward) (x : Nat) (h : rg x < 2139095040) : rndV way x = wd (sgn x) (Ieee.single.nearest false (cutN way x) 0) := by
  have hn : nanW x = false := by rw [nanW_rg]; exact decide_eq_false (by omega)
  unfold rndV
  rw [hn, if_neg (by decide), if_neg (by omega)]
set_option maxRecDepth 100000 in
theorem rround1_back (x : Nat) (ax : Nat) (m : Nat) (e : Int) (f : Bool) (w : World) (HCX : Hid (∀ W, Calls Try.prog 10 #[.int .u32 (x : Int)] W fun r w' => r = .returned (.int .u32 (ax : Int)) ∧ W = w')) (HPX : Hid (∀ W, Calls Try.prog 54 #[.int .u32 (ax : Int)] W fun r w' => r = .returned (.tuple #[.int .i64 (m : Int), .int .i64 e]) ∧ W = w'))
    (HFX : Hid (∀ W, Calls Try.prog 53 #[.int .u32 (ax : Int)] W fun r w' => r = .returned (.bool f) ∧ W = w')) (hf : f = false ∨ 0 ≤ e) :
    Calls Try.prog 26 #[.int .u32 (x : Int), .int .i64 1] w fun r w' => r = .returned (.int .u32 (ax : Int)) ∧ Below w.heap.size w w' := by
  cases f
  · clear hf
    go_enter Try.func26, Try.ntmps26
    go_wp2_with ((first | (go_at_call 10; (with_reducible refine (HCX.out _).mono ?_); rintro r1 y1 ⟨rfl, rfl⟩) | (go_at_call 53; (with_reducible refine (HFX.out _).mono ?_); rintro r1 y1 ⟨rfl, rfl⟩) | (go_at_call 54; (with_reducible refine (HPX.out _).mono ?_); rintro r1 y1 ⟨rfl, rfl⟩)))
    go_ret
    exact ⟨rfl, Below.refl _ _⟩
  · have t0 : decide (e ≥ 0) = true := decide_eq_true (hf.resolve_left (by decide))
    clear hf
    go_enter Try.func26, Try.ntmps26
    go_wp2_with ((first | (go_at_call 10; (with_reducible refine (HCX.out _).mono ?_); rintro r1 y1 ⟨rfl, rfl⟩) | (go_at_call 53; (with_reducible refine (HFX.out _).mono ?_); rintro r1 y1 ⟨rfl, rfl⟩) | (go_at_call 54; (with_reducible refine (HPX.out _).mono ?_); rintro r1 y1 ⟨rfl, rfl⟩)))
    go_ret
    exact ⟨rfl, Below.refl _ _⟩
set_option maxRecDepth 100000 in
set_option maxHeartbeats 2000000 in
theorem rround1_fin (x m N0 N1 S R0 R1 T0 T1 : Nat) (e c : Int) (s l : Bool) (V : Nat) (w : World) (HCX : Hid (∀ W, Calls Try.prog 10 #[.int .u32 (x : Int)] W fun r w' => r = .returned (.int .u32 (x : Int)) ∧ W = w')) (HPX : Hid (∀ W, Calls Try.prog 54 #[.int .u32 (x : Int)] W fun r w' => r = .returned (.tuple #[.int .i64 (m : Int), .int .i64 e]) ∧ W = w'))
    (HFX : Hid (∀ W, Calls Try.prog 53 #[.int .u32 (x : Int)] W fun r w' => r = .returned (.bool true) ∧ W = w')) (HWX : Hid (∀ W, Calls Try.prog 63 #[.int .u32 (x : Int)] W fun r w' => r = .returned (.tuple #[.int .u64 (N0 : Int), .int .i64 c, .bool l]) ∧ W = w'))
    (HF0 : Hid (∀ W, Calls Try.prog 35 #[.int .u64 (N0 : Int)] W fun r w' => r = .returned (.int .u32 (R0 : Int)) ∧ Below W.heap.size W w')) (HF1 : Hid (∀ W, Calls Try.prog 35 #[.int .u64 (N1 : Int)] W fun r w' => r = .returned (.int .u32 (R1 : Int)) ∧ Below W.heap.size W w'))
    (he : e < 0) (hS : bits .and .u32 (x : Int) 2147483648 = (S : Int)) (tS : ((S : Int) != 0) = s) (tZ : ((S : Int) == 0) = !s) (hN : IntKind.u64.wrap ((N0 : Int) + 1) = (N1 : Int)) (ho0 : bits .or .u32 (S : Int) (R0 : Int) = (T0 : Int)) (ho1 : bits .or .u32 (S : Int) (R1 : Int) = (T1 : Int))
    (hV : V = if adjW .zero s N0 c l then T1 else T0) :
    Calls Try.prog 26 #[.int .u32 (x : Int), .int .i64 1] w fun r w' => r = .returned (.int .u32 (V : Int)) ∧ Below w.heap.size w w' := by
  have t0 : decide (e ≥ 0) = false := decide_eq_false (by omega)
  clear he
  have HR := Lib.hid (show V = T0 from hV)
  clear hV
  go_enter Try.func26, Try.ntmps26
  go_wp2_with ((first | (go_at_call 10; (with_reducible refine (HCX.out _).mono ?_); rintro r1 y1 ⟨rfl, rfl⟩) | (go_at_call 53; (with_reducible refine (HFX.out _).mono ?_); rintro r1 y1 ⟨rfl, rfl⟩) | (go_at_call 54; (with_reducible refine (HPX.out _).mono ?_); rintro r1 y1 ⟨rfl, rfl⟩) | (go_at_call 63; (with_reducible refine (HWX.out _).mono ?_); rintro r1 y1 ⟨rfl, rfl⟩) | (go_at_call 35; (with_reducible refine (HF0.out _).mono ?_); rintro r1 y2 ⟨rfl, hl⟩)))
  go_ret
  exact ⟨by rw [HR.out]; rfl, hl⟩
set_option maxRecDepth 100000 in
theorem rround2_back (x : Nat) (ax : Nat) (m : Nat) (e : Int) (f : Bool) (w : World) (HCX : Hid (∀ W, Calls Try.prog 10 #[.int .u32 (x : Int)] W fun r w' => r = .returned (.int .u32 (ax : Int)) ∧ W = w')) (HPX : Hid (∀ W, Calls Try.prog 54 #[.int .u32 (ax : Int)] W fun r w' => r = .returned (.tuple #[.int .i64 (m : Int), .int .i64 e]) ∧ W = w'))
    (HFX : Hid (∀ W, Calls Try.prog 53 #[.int .u32 (ax : Int)] W fun r w' => r = .returned (.bool f) ∧ W = w')) (hf : f = false ∨ 0 ≤ e) :
    Calls Try.prog 26 #[.int .u32 (x : Int), .int .i64 2] w fun r w' => r = .returned (.int .u32 (ax : Int)) ∧ Below w.heap.size w w' := by
  cases f
  · clear hf
    go_enter Try.func26, Try.ntmps26
    go_wp2_with ((first | (go_at_call 10; (with_reducible refine (HCX.out _).mono ?_); rintro r1 y1 ⟨rfl, rfl⟩) | (go_at_call 53; (with_reducible refine (HFX.out _).mono ?_); rintro r1 y1 ⟨rfl, rfl⟩) | (go_at_call 54; (with_reducible refine (HPX.out _).mono ?_); rintro r1 y1 ⟨rfl, rfl⟩)))
    go_ret
    exact ⟨rfl, Below.refl _ _⟩
  · have t0 : decide (e ≥ 0) = true := decide_eq_true (hf.resolve_left (by decide))
    clear hf
    go_enter Try.func26, Try.ntmps26
    go_wp2_with ((first | (go_at_call 10; (with_reducible refine (HCX.out _).mono ?_); rintro r1 y1 ⟨rfl, rfl⟩) | (go_at_call 53; (with_reducible refine (HFX.out _).mono ?_); rintro r1 y1 ⟨rfl, rfl⟩) | (go_at_call 54; (with_reducible refine (HPX.out _).mono ?_); rintro r1 y1 ⟨rfl, rfl⟩)))
    go_ret
    exact ⟨rfl, Below.refl _ _⟩
set_option maxRecDepth 100000 in
set_option maxHeartbeats 2000000 in
theorem rround2_fin (x m N0 N1 S R0 R1 T0 T1 : Nat) (e c : Int) (s l : Bool) (V : Nat) (w : World) (HCX : Hid (∀ W, Calls Try.prog 10 #[.int .u32 (x : Int)] W fun r w' => r = .returned (.int .u32 (x : Int)) ∧ W = w')) (HPX : Hid (∀ W, Calls Try.prog 54 #[.int .u32 (x : Int)] W fun r w' => r = .returned (.tuple #[.int .i64 (m : Int), .int .i64 e]) ∧ W = w'))
    (HFX : Hid (∀ W, Calls Try.prog 53 #[.int .u32 (x : Int)] W fun r w' => r = .returned (.bool true) ∧ W = w')) (HWX : Hid (∀ W, Calls Try.prog 63 #[.int .u32 (x : Int)] W fun r w' => r = .returned (.tuple #[.int .u64 (N0 : Int), .int .i64 c, .bool l]) ∧ W = w'))
    (HF0 : Hid (∀ W, Calls Try.prog 35 #[.int .u64 (N0 : Int)] W fun r w' => r = .returned (.int .u32 (R0 : Int)) ∧ Below W.heap.size W w')) (HF1 : Hid (∀ W, Calls Try.prog 35 #[.int .u64 (N1 : Int)] W fun r w' => r = .returned (.int .u32 (R1 : Int)) ∧ Below W.heap.size W w'))
    (he : e < 0) (hS : bits .and .u32 (x : Int) 2147483648 = (S : Int)) (tS : ((S : Int) != 0) = s) (tZ : ((S : Int) == 0) = !s) (hN : IntKind.u64.wrap ((N0 : Int) + 1) = (N1 : Int)) (ho0 : bits .or .u32 (S : Int) (R0 : Int) = (T0 : Int)) (ho1 : bits .or .u32 (S : Int) (R1 : Int) = (T1 : Int))
    (hV : V = if adjW .down s N0 c l then T1 else T0) :
    Calls Try.prog 26 #[.int .u32 (x : Int), .int .i64 2] w fun r w' => r = .returned (.int .u32 (V : Int)) ∧ Below w.heap.size w w' := by
  have t0 : decide (e ≥ 0) = false := decide_eq_false (by omega)
  clear he
  cases s
  · cases l
    · have HR := Lib.hid (show V = T0 from hV)
      clear hV
      go_enter Try.func26, Try.ntmps26
      go_wp2_with ((first | (go_at_call 10; (with_reducible refine (HCX.out _).mono ?_); rintro r1 y1 ⟨rfl, rfl⟩) | (go_at_call 53; (with_reducible refine (HFX.out _).mono ?_); rintro r1 y1 ⟨rfl, rfl⟩) | (go_at_call 54; (with_reducible refine (HPX.out _).mono ?_); rintro r1 y1 ⟨rfl, rfl⟩) | (go_at_call 63; (with_reducible refine (HWX.out _).mono ?_); rintro r1 y1 ⟨rfl, rfl⟩) | (go_at_call 35; (with_reducible refine (HF0.out _).mono ?_); rintro r1 y2 ⟨rfl, hl⟩)))
      go_ret
      exact ⟨by rw [HR.out]; rfl, hl⟩
    · have HR := Lib.hid (show V = T0 from hV)
      clear hV
      go_enter Try.func26, Try.ntmps26
      go_wp2_with ((first | (go_at_call 10; (with_reducible refine (HCX.out _).mono ?_); rintro r1 y1 ⟨rfl, rfl⟩) | (go_at_call 53; (with_reducible refine (HFX.out _).mono ?_); rintro r1 y1 ⟨rfl, rfl⟩) | (go_at_call 54; (with_reducible refine (HPX.out _).mono ?_); rintro r1 y1 ⟨rfl, rfl⟩) | (go_at_call 63; (with_reducible refine (HWX.out _).mono ?_); rintro r1 y1 ⟨rfl, rfl⟩) | (go_at_call 35; (with_reducible refine (HF0.out _).mono ?_); rintro r1 y2 ⟨rfl, hl⟩)))
      go_ret
      exact ⟨by rw [HR.out]; rfl, hl⟩
  · cases l
    · have HR := Lib.hid (show V = T0 from hV)
      clear hV
      go_enter Try.func26, Try.ntmps26
      go_wp2_with ((first | (go_at_call 10; (with_reducible refine (HCX.out _).mono ?_); rintro r1 y1 ⟨rfl, rfl⟩) | (go_at_call 53; (with_reducible refine (HFX.out _).mono ?_); rintro r1 y1 ⟨rfl, rfl⟩) | (go_at_call 54; (with_reducible refine (HPX.out _).mono ?_); rintro r1 y1 ⟨rfl, rfl⟩) | (go_at_call 63; (with_reducible refine (HWX.out _).mono ?_); rintro r1 y1 ⟨rfl, rfl⟩) | (go_at_call 35; (with_reducible refine (HF0.out _).mono ?_); rintro r1 y2 ⟨rfl, hl⟩)))
      go_ret
      exact ⟨by rw [HR.out]; rfl, hl⟩
    · have HR := Lib.hid (show V = T1 from hV)
      clear hV
      go_enter Try.func26, Try.ntmps26
      go_wp2_with ((first | (go_at_call 10; (with_reducible refine (HCX.out _).mono ?_); rintro r1 y1 ⟨rfl, rfl⟩) | (go_at_call 53; (with_reducible refine (HFX.out _).mono ?_); rintro r1 y1 ⟨rfl, rfl⟩) | (go_at_call 54; (with_reducible refine (HPX.out _).mono ?_); rintro r1 y1 ⟨rfl, rfl⟩) | (go_at_call 63; (with_reducible refine (HWX.out _).mono ?_); rintro r1 y1 ⟨rfl, rfl⟩) | (go_at_call 35; (with_reducible refine (HF1.out _).mono ?_); rintro r1 y2 ⟨rfl, hl⟩)))
      go_ret
      exact ⟨by rw [HR.out]; rfl, hl⟩
set_option maxRecDepth 100000 in
theorem rround3_back (x : Nat) (ax : Nat) (m : Nat) (e : Int) (f : Bool) (w : World) (HCX : Hid (∀ W, Calls Try.prog 10 #[.int .u32 (x : Int)] W fun r w' => r = .returned (.int .u32 (ax : Int)) ∧ W = w')) (HPX : Hid (∀ W, Calls Try.prog 54 #[.int .u32 (ax : Int)] W fun r w' => r = .returned (.tuple #[.int .i64 (m : Int), .int .i64 e]) ∧ W = w'))
    (HFX : Hid (∀ W, Calls Try.prog 53 #[.int .u32 (ax : Int)] W fun r w' => r = .returned (.bool f) ∧ W = w')) (hf : f = false ∨ 0 ≤ e) :
    Calls Try.prog 26 #[.int .u32 (x : Int), .int .i64 3] w fun r w' => r = .returned (.int .u32 (ax : Int)) ∧ Below w.heap.size w w' := by
  cases f
  · clear hf
    go_enter Try.func26, Try.ntmps26
    go_wp2_with ((first | (go_at_call 10; (with_reducible refine (HCX.out _).mono ?_); rintro r1 y1 ⟨rfl, rfl⟩) | (go_at_call 53; (with_reducible refine (HFX.out _).mono ?_); rintro r1 y1 ⟨rfl, rfl⟩) | (go_at_call 54; (with_reducible refine (HPX.out _).mono ?_); rintro r1 y1 ⟨rfl, rfl⟩)))
    go_ret
    exact ⟨rfl, Below.refl _ _⟩
  · have t0 : decide (e ≥ 0) = true := decide_eq_true (hf.resolve_left (by decide))
    clear hf
    go_enter Try.func26, Try.ntmps26
    go_wp2_with ((first | (go_at_call 10; (with_reducible refine (HCX.out _).mono ?_); rintro r1 y1 ⟨rfl, rfl⟩) | (go_at_call 53; (with_reducible refine (HFX.out _).mono ?_); rintro r1 y1 ⟨rfl, rfl⟩) | (go_at_call 54; (with_reducible refine (HPX.out _).mono ?_); rintro r1 y1 ⟨rfl, rfl⟩)))
    go_ret
    exact ⟨rfl, Below.refl _ _⟩
set_option maxRecDepth 100000 in
set_option maxHeartbeats 2000000 in
theorem rround3_fin (x m N0 N1 S R0 R1 T0 T1 : Nat) (e c : Int) (s l : Bool) (V : Nat) (w : World) (HCX : Hid (∀ W, Calls Try.prog 10 #[.int .u32 (x : Int)] W fun r w' => r = .returned (.int .u32 (x : Int)) ∧ W = w')) (HPX : Hid (∀ W, Calls Try.prog 54 #[.int .u32 (x : Int)] W fun r w' => r = .returned (.tuple #[.int .i64 (m : Int), .int .i64 e]) ∧ W = w'))
    (HFX : Hid (∀ W, Calls Try.prog 53 #[.int .u32 (x : Int)] W fun r w' => r = .returned (.bool true) ∧ W = w')) (HWX : Hid (∀ W, Calls Try.prog 63 #[.int .u32 (x : Int)] W fun r w' => r = .returned (.tuple #[.int .u64 (N0 : Int), .int .i64 c, .bool l]) ∧ W = w'))
    (HF0 : Hid (∀ W, Calls Try.prog 35 #[.int .u64 (N0 : Int)] W fun r w' => r = .returned (.int .u32 (R0 : Int)) ∧ Below W.heap.size W w')) (HF1 : Hid (∀ W, Calls Try.prog 35 #[.int .u64 (N1 : Int)] W fun r w' => r = .returned (.int .u32 (R1 : Int)) ∧ Below W.heap.size W w'))
    (he : e < 0) (hS : bits .and .u32 (x : Int) 2147483648 = (S : Int)) (tS : ((S : Int) != 0) = s) (tZ : ((S : Int) == 0) = !s) (hN : IntKind.u64.wrap ((N0 : Int) + 1) = (N1 : Int)) (ho0 : bits .or .u32 (S : Int) (R0 : Int) = (T0 : Int)) (ho1 : bits .or .u32 (S : Int) (R1 : Int) = (T1 : Int))
    (hV : V = if adjW .up s N0 c l then T1 else T0) :
    Calls Try.prog 26 #[.int .u32 (x : Int), .int .i64 3] w fun r w' => r = .returned (.int .u32 (V : Int)) ∧ Below w.heap.size w w' := by
  have t0 : decide (e ≥ 0) = false := decide_eq_false (by omega)
  clear he
  cases s
  · cases l
    · have HR := Lib.hid (show V = T0 from hV)
      clear hV
      go_enter Try.func26, Try.ntmps26
      go_wp2_with ((first | (go_at_call 10; (with_reducible refine (HCX.out _).mono ?_); rintro r1 y1 ⟨rfl, rfl⟩) | (go_at_call 53; (with_reducible refine (HFX.out _).mono ?_); rintro r1 y1 ⟨rfl, rfl⟩) | (go_at_call 54; (with_reducible refine (HPX.out _).mono ?_); rintro r1 y1 ⟨rfl, rfl⟩) | (go_at_call 63; (with_reducible refine (HWX.out _).mono ?_); rintro r1 y1 ⟨rfl, rfl⟩) | (go_at_call 35; (with_reducible refine (HF0.out _).mono ?_); rintro r1 y2 ⟨rfl, hl⟩)))
      go_ret
      exact ⟨by rw [HR.out]; rfl, hl⟩
    · have HR := Lib.hid (show V = T1 from hV)
      clear hV
      go_enter Try.func26, Try.ntmps26
      go_wp2_with ((first | (go_at_call 10; (with_reducible refine (HCX.out _).mono ?_); rintro r1 y1 ⟨rfl, rfl⟩) | (go_at_call 53; (with_reducible refine (HFX.out _).mono ?_); rintro r1 y1 ⟨rfl, rfl⟩) | (go_at_call 54; (with_reducible refine (HPX.out _).mono ?_); rintro r1 y1 ⟨rfl, rfl⟩) | (go_at_call 63; (with_reducible refine (HWX.out _).mono ?_); rintro r1 y1 ⟨rfl, rfl⟩) | (go_at_call 35; (with_reducible refine (HF1.out _).mono ?_); rintro r1 y2 ⟨rfl, hl⟩)))
      go_ret
      exact ⟨by rw [HR.out]; rfl, hl⟩
  · cases l
    · have HR := Lib.hid (show V = T0 from hV)
      clear hV
      go_enter Try.func26, Try.ntmps26
      go_wp2_with ((first | (go_at_call 10; (with_reducible refine (HCX.out _).mono ?_); rintro r1 y1 ⟨rfl, rfl⟩) | (go_at_call 53; (with_reducible refine (HFX.out _).mono ?_); rintro r1 y1 ⟨rfl, rfl⟩) | (go_at_call 54; (with_reducible refine (HPX.out _).mono ?_); rintro r1 y1 ⟨rfl, rfl⟩) | (go_at_call 63; (with_reducible refine (HWX.out _).mono ?_); rintro r1 y1 ⟨rfl, rfl⟩) | (go_at_call 35; (with_reducible refine (HF0.out _).mono ?_); rintro r1 y2 ⟨rfl, hl⟩)))
      go_ret
      exact ⟨by rw [HR.out]; rfl, hl⟩
    · have HR := Lib.hid (show V = T0 from hV)
      clear hV
      go_enter Try.func26, Try.ntmps26
      go_wp2_with ((first | (go_at_call 10; (with_reducible refine (HCX.out _).mono ?_); rintro r1 y1 ⟨rfl, rfl⟩) | (go_at_call 53; (with_reducible refine (HFX.out _).mono ?_); rintro r1 y1 ⟨rfl, rfl⟩) | (go_at_call 54; (with_reducible refine (HPX.out _).mono ?_); rintro r1 y1 ⟨rfl, rfl⟩) | (go_at_call 63; (with_reducible refine (HWX.out _).mono ?_); rintro r1 y1 ⟨rfl, rfl⟩) | (go_at_call 35; (with_reducible refine (HF0.out _).mono ?_); rintro r1 y2 ⟨rfl, hl⟩)))
      go_ret
      exact ⟨by rw [HR.out]; rfl, hl⟩
set_option maxRecDepth 100000 in
theorem rround4_back (x : Nat) (ax : Nat) (m : Nat) (e : Int) (f : Bool) (w : World) (HCX : Hid (∀ W, Calls Try.prog 10 #[.int .u32 (x : Int)] W fun r w' => r = .returned (.int .u32 (ax : Int)) ∧ W = w')) (HPX : Hid (∀ W, Calls Try.prog 54 #[.int .u32 (ax : Int)] W fun r w' => r = .returned (.tuple #[.int .i64 (m : Int), .int .i64 e]) ∧ W = w'))
    (HFX : Hid (∀ W, Calls Try.prog 53 #[.int .u32 (ax : Int)] W fun r w' => r = .returned (.bool f) ∧ W = w')) (hf : f = false ∨ 0 ≤ e) :
    Calls Try.prog 26 #[.int .u32 (x : Int), .int .i64 4] w fun r w' => r = .returned (.int .u32 (ax : Int)) ∧ Below w.heap.size w w' := by
  cases f
  · clear hf
    go_enter Try.func26, Try.ntmps26
    go_wp2_with ((first | (go_at_call 10; (with_reducible refine (HCX.out _).mono ?_); rintro r1 y1 ⟨rfl, rfl⟩) | (go_at_call 53; (with_reducible refine (HFX.out _).mono ?_); rintro r1 y1 ⟨rfl, rfl⟩) | (go_at_call 54; (with_reducible refine (HPX.out _).mono ?_); rintro r1 y1 ⟨rfl, rfl⟩)))
    go_ret
    exact ⟨rfl, Below.refl _ _⟩
  · have t0 : decide (e ≥ 0) = true := decide_eq_true (hf.resolve_left (by decide))
    clear hf
    go_enter Try.func26, Try.ntmps26
    go_wp2_with ((first | (go_at_call 10; (with_reducible refine (HCX.out _).mono ?_); rintro r1 y1 ⟨rfl, rfl⟩) | (go_at_call 53; (with_reducible refine (HFX.out _).mono ?_); rintro r1 y1 ⟨rfl, rfl⟩) | (go_at_call 54; (with_reducible refine (HPX.out _).mono ?_); rintro r1 y1 ⟨rfl, rfl⟩)))
    go_ret
    exact ⟨rfl, Below.refl _ _⟩
set_option maxRecDepth 100000 in
set_option maxHeartbeats 2000000 in
theorem rround4_fin (x m N0 N1 S R0 R1 T0 T1 : Nat) (e c : Int) (s l : Bool) (V : Nat) (w : World) (HCX : Hid (∀ W, Calls Try.prog 10 #[.int .u32 (x : Int)] W fun r w' => r = .returned (.int .u32 (x : Int)) ∧ W = w')) (HPX : Hid (∀ W, Calls Try.prog 54 #[.int .u32 (x : Int)] W fun r w' => r = .returned (.tuple #[.int .i64 (m : Int), .int .i64 e]) ∧ W = w'))
    (HFX : Hid (∀ W, Calls Try.prog 53 #[.int .u32 (x : Int)] W fun r w' => r = .returned (.bool true) ∧ W = w')) (HWX : Hid (∀ W, Calls Try.prog 63 #[.int .u32 (x : Int)] W fun r w' => r = .returned (.tuple #[.int .u64 (N0 : Int), .int .i64 c, .bool l]) ∧ W = w'))
    (HF0 : Hid (∀ W, Calls Try.prog 35 #[.int .u64 (N0 : Int)] W fun r w' => r = .returned (.int .u32 (R0 : Int)) ∧ Below W.heap.size W w')) (HF1 : Hid (∀ W, Calls Try.prog 35 #[.int .u64 (N1 : Int)] W fun r w' => r = .returned (.int .u32 (R1 : Int)) ∧ Below W.heap.size W w'))
    (he : e < 0) (hS : bits .and .u32 (x : Int) 2147483648 = (S : Int)) (tS : ((S : Int) != 0) = s) (tZ : ((S : Int) == 0) = !s) (hN : IntKind.u64.wrap ((N0 : Int) + 1) = (N1 : Int)) (ho0 : bits .or .u32 (S : Int) (R0 : Int) = (T0 : Int)) (ho1 : bits .or .u32 (S : Int) (R1 : Int) = (T1 : Int))
    (hV : V = if adjW .even s N0 c l then T1 else T0) :
    Calls Try.prog 26 #[.int .u32 (x : Int), .int .i64 4] w fun r w' => r = .returned (.int .u32 (V : Int)) ∧ Below w.heap.size w w' := by
  have t0 : decide (e ≥ 0) = false := decide_eq_false (by omega)
  clear he
  have hr := trem_nat N0 2
  simp only [Int.cast_ofNat_Int] at hr
  by_cases hc : 0 < c
  · have c1 : decide (c > 0) = true := decide_eq_true hc
    have HR := Lib.hid (show V = T1 by rw [hV]; unfold adjW; dsimp only; rw [decide_eq_true hc]; rfl)
    clear hV hc
    go_enter Try.func26, Try.ntmps26
    go_wp2_with ((first | (go_at_call 10; (with_reducible refine (HCX.out _).mono ?_); rintro r1 y1 ⟨rfl, rfl⟩) | (go_at_call 53; (with_reducible refine (HFX.out _).mono ?_); rintro r1 y1 ⟨rfl, rfl⟩) | (go_at_call 54; (with_reducible refine (HPX.out _).mono ?_); rintro r1 y1 ⟨rfl, rfl⟩) | (go_at_call 63; (with_reducible refine (HWX.out _).mono ?_); rintro r1 y1 ⟨rfl, rfl⟩) | (go_at_call 35; (with_reducible refine (HF1.out _).mono ?_); rintro r1 y2 ⟨rfl, hl⟩)))
    go_ret
    exact ⟨by rw [HR.out]; rfl, hl⟩
  · have c1 : decide (c > 0) = false := decide_eq_false hc
    by_cases hz : c = 0
    · have c2 : (c == 0) = true := beq_iff_eq.2 hz
      have hwm : IntKind.u64.wrap ((N0 % 2 : Nat) : Int) = ((N0 % 2 : Nat) : Int) := by rw [IntKind.wrap_u64]; omega
      by_cases ho : N0 % 2 = 1
      · have HR := Lib.hid (show V = T1 by rw [hV]; unfold adjW; dsimp only; rw [decide_eq_false hc, c2, ho]; rfl)
        have c3 : (((N0 % 2 : Nat) : Int) == 1) = true := by rw [beq_iff_eq]; omega
        clear hV ho hz hc
        generalize N0 % 2 = o at *
        go_enter Try.func26, Try.ntmps26
        go_wp2_with ((first | (go_at_call 10; (with_reducible refine (HCX.out _).mono ?_); rintro r1 y1 ⟨rfl, rfl⟩) | (go_at_call 53; (with_reducible refine (HFX.out _).mono ?_); rintro r1 y1 ⟨rfl, rfl⟩) | (go_at_call 54; (with_reducible refine (HPX.out _).mono ?_); rintro r1 y1 ⟨rfl, rfl⟩) | (go_at_call 63; (with_reducible refine (HWX.out _).mono ?_); rintro r1 y1 ⟨rfl, rfl⟩) | (go_at_call 35; (with_reducible refine (HF1.out _).mono ?_); rintro r1 y2 ⟨rfl, hl⟩)))
        go_ret
        exact ⟨by rw [HR.out]; rfl, hl⟩
      · have HR := Lib.hid (show V = T0 by rw [hV]; unfold adjW; dsimp only; rw [decide_eq_false hc, c2, beq_eq_false_iff_ne.2 ho]; rfl)
        have c3 : (((N0 % 2 : Nat) : Int) == 1) = false := by rw [beq_eq_false_iff_ne]; omega
        clear hV ho hz hc
        generalize N0 % 2 = o at *
        go_enter Try.func26, Try.ntmps26
        go_wp2_with ((first | (go_at_call 10; (with_reducible refine (HCX.out _).mono ?_); rintro r1 y1 ⟨rfl, rfl⟩) | (go_at_call 53; (with_reducible refine (HFX.out _).mono ?_); rintro r1 y1 ⟨rfl, rfl⟩) | (go_at_call 54; (with_reducible refine (HPX.out _).mono ?_); rintro r1 y1 ⟨rfl, rfl⟩) | (go_at_call 63; (with_reducible refine (HWX.out _).mono ?_); rintro r1 y1 ⟨rfl, rfl⟩) | (go_at_call 35; (with_reducible refine (HF0.out _).mono ?_); rintro r1 y2 ⟨rfl, hl⟩)))
        go_ret
        exact ⟨by rw [HR.out]; rfl, hl⟩
    · have c2 : (c == 0) = false := beq_eq_false_iff_ne.2 hz
      have HR := Lib.hid (show V = T0 by rw [hV]; unfold adjW; dsimp only; rw [decide_eq_false hc, c2]; rfl)
      clear hV hz hc
      go_enter Try.func26, Try.ntmps26
      go_wp2_with ((first | (go_at_call 10; (with_reducible refine (HCX.out _).mono ?_); rintro r1 y1 ⟨rfl, rfl⟩) | (go_at_call 53; (with_reducible refine (HFX.out _).mono ?_); rintro r1 y1 ⟨rfl, rfl⟩) | (go_at_call 54; (with_reducible refine (HPX.out _).mono ?_); rintro r1 y1 ⟨rfl, rfl⟩) | (go_at_call 63; (with_reducible refine (HWX.out _).mono ?_); rintro r1 y1 ⟨rfl, rfl⟩) | (go_at_call 35; (with_reducible refine (HF0.out _).mono ?_); rintro r1 y2 ⟨rfl, hl⟩)))
      go_ret
      exact ⟨by rw [HR.out]; rfl, hl⟩
set_option maxRecDepth 100000 in
theorem rround_nil (x : Nat) (way : Int) (w : World) (hw : way < 1 ∨ 4 < way) :
    Calls Try.prog 26 #[.int .u32 (x : Int), .int .i64 way] w fun r w' => r = .returned (.int .u32 2143289344) ∧ Below w.heap.size w w' := by
  have HCX := Lib.hid (fun W => rclean_any x W)
  generalize cleanW x = ax at *
  by_cases h1 : way < 1
  · have t0 : decide (way < 1) = true := decide_eq_true h1
    clear hw h1
    go_enter Try.func26, Try.ntmps26
    go_wp2_with ((first | (go_at_call 10; (with_reducible refine (HCX.out _).mono ?_); rintro r1 y1 ⟨rfl, rfl⟩)))
    go_ret
    exact ⟨rfl, Below.refl _ _⟩
  · have t0 : decide (way < 1) = false := decide_eq_false h1
    have t1 : decide (way > 4) = true := decide_eq_true (by omega)
    clear hw h1
    go_enter Try.func26, Try.ntmps26
    go_wp2_with ((first | (go_at_call 10; (with_reducible refine (HCX.out _).mono ?_); rintro r1 y1 ⟨rfl, rfl⟩)))
    go_ret
    exact ⟨rfl, Below.refl _ _⟩
theorem rround1_any (x : Nat) (hx : x < 4294967296) (w : World) : Calls Try.prog 26 #[.int .u32 (x : Int), .int .i64 1] w fun r w' => r = .returned (.int .u32 ((rndV .zero x : Nat) : Int)) ∧ Below w.heap.size w w' := by
  have lx := cleanW_lt hx
  have HCX := Lib.hid (fun W => rclean_any x W)
  have HPX := Lib.hid (fun W => parts_any (cleanW x) lx W)
  have HFX := Lib.hid (fun W => finite_any (cleanW x) W)
  obtain ⟨_, cx⟩ := cls3 x hx
  rcases cx with ⟨hnx, hcx⟩ | ⟨hnx, hcx, hnex, ⟨hrx, hfx⟩ | ⟨hrx, hfx⟩⟩
  · have hv : rndV .zero x = cleanW x := by unfold rndV; rw [if_pos hnx, hcx]
    have hf : finW (cleanW x) = false := by rw [hcx]; decide
    rw [hv]
    exact rround1_back x (cleanW x) _ _ _ w HCX HPX HFX (.inl hf)
  · have hv : rndV .zero x = x := by unfold rndV; rw [hnx, if_neg (by decide), if_pos hrx]
    rw [hv]
    have h := rround1_back x (cleanW x) _ _ _ w HCX HPX HFX (.inl (by rw [hcx]; exact hfx))
    rw [hcx] at h
    exact h
  · by_cases hp : 0 ≤ pe (rg x)
    · rw [rnd_big .zero x hx hrx hp]
      have h := rround1_back x (cleanW x) _ _ _ w HCX HPX HFX (.inr (by rw [hcx]; exact hp))
      rw [hcx] at h
      exact h
    · rw [hcx] at HCX HPX HFX
      rw [hfx] at HFX
      have HWX := Lib.hid (fun W => whole_any x hx W)
      have hN := wN_lt _ _ (pm_lt (rg x)) (show pe (rg x) < 0 by omega)
      have HF0 := Lib.hid (fun W => rfu_any (wN (pm (rg x)) (pe (rg x))) (by omega) W)
      have HF1 := Lib.hid (fun W => rfu_any (wN (pm (rg x)) (pe (rg x)) + 1) (by omega) W)
      have hS := sign_and x hx
      have ho0 := sign_or (sgn x) (Ieee.single.nearest false (wN (pm (rg x)) (pe (rg x))) 0) (by have := nearest_le (wN (pm (rg x)) (pe (rg x))) 0; omega)
      have ho1 := sign_or (sgn x) (Ieee.single.nearest false (wN (pm (rg x)) (pe (rg x)) + 1) 0) (by have := nearest_le (wN (pm (rg x)) (pe (rg x)) + 1) 0; omega)
      refine rround1_fin x _ _ _ _ _ _ _ _ (pe (rg x)) _ (sgn x) _ _ w HCX HPX HFX HWX HF0 HF1 (by omega) hS ?_ ?_ ?_ ho0 ho1 ?_
      · cases sgn x <;> decide
      · cases sgn x <;> decide
      · rw [IntKind.wrap_u64]; omega
      · rw [rnd_fin .zero x hrx, cut_adj .zero x (by omega)]
        cases adjW .zero (sgn x) (wN (pm (rg x)) (pe (rg x))) (wC (pm (rg x)) (pe (rg x))) (wL (pm (rg x)) (pe (rg x)))
        · rw [if_neg (by decide)]; rfl
        · rw [if_pos rfl]; rfl
theorem rround2_any (x : Nat) (hx : x < 4294967296) (w : World) : Calls Try.prog 26 #[.int .u32 (x : Int), .int .i64 2] w fun r w' => r = .returned (.int .u32 ((rndV .down x : Nat) : Int)) ∧ Below w.heap.size w w' := by
  have lx := cleanW_lt hx
  have HCX := Lib.hid (fun W => rclean_any x W)
  have HPX := Lib.hid (fun W => parts_any (cleanW x) lx W)
  have HFX := Lib.hid (fun W => finite_any (cleanW x) W)
  obtain ⟨_, cx⟩ := cls3 x hx
  rcases cx with ⟨hnx, hcx⟩ | ⟨hnx, hcx, hnex, ⟨hrx, hfx⟩ | ⟨hrx, hfx⟩⟩
  · have hv : rndV .down x = cleanW x := by unfold rndV; rw [if_pos hnx, hcx]
    have hf : finW (cleanW x) = false := by rw [hcx]; decide
    rw [hv]
    exact rround2_back x (cleanW x) _ _ _ w HCX HPX HFX (.inl hf)
  · have hv : rndV .down x = x := by unfold rndV; rw [hnx, if_neg (by decide), if_pos hrx]
    rw [hv]
    have h := rround2_back x (cleanW x) _ _ _ w HCX HPX HFX (.inl (by rw [hcx]; exact hfx))
    rw [hcx] at h
    exact h
  · by_cases hp : 0 ≤ pe (rg x)
    · rw [rnd_big .down x hx hrx hp]
      have h := rround2_back x (cleanW x) _ _ _ w HCX HPX HFX (.inr (by rw [hcx]; exact hp))
      rw [hcx] at h
      exact h
    · rw [hcx] at HCX HPX HFX
      rw [hfx] at HFX
      have HWX := Lib.hid (fun W => whole_any x hx W)
      have hN := wN_lt _ _ (pm_lt (rg x)) (show pe (rg x) < 0 by omega)
      have HF0 := Lib.hid (fun W => rfu_any (wN (pm (rg x)) (pe (rg x))) (by omega) W)
      have HF1 := Lib.hid (fun W => rfu_any (wN (pm (rg x)) (pe (rg x)) + 1) (by omega) W)
      have hS := sign_and x hx
      have ho0 := sign_or (sgn x) (Ieee.single.nearest false (wN (pm (rg x)) (pe (rg x))) 0) (by have := nearest_le (wN (pm (rg x)) (pe (rg x))) 0; omega)
      have ho1 := sign_or (sgn x) (Ieee.single.nearest false (wN (pm (rg x)) (pe (rg x)) + 1) 0) (by have := nearest_le (wN (pm (rg x)) (pe (rg x)) + 1) 0; omega)
      refine rround2_fin x _ _ _ _ _ _ _ _ (pe (rg x)) _ (sgn x) _ _ w HCX HPX HFX HWX HF0 HF1 (by omega) hS ?_ ?_ ?_ ho0 ho1 ?_
      · cases sgn x <;> decide
      · cases sgn x <;> decide
      · rw [IntKind.wrap_u64]; omega
      · rw [rnd_fin .down x hrx, cut_adj .down x (by omega)]
        cases adjW .down (sgn x) (wN (pm (rg x)) (pe (rg x))) (wC (pm (rg x)) (pe (rg x))) (wL (pm (rg x)) (pe (rg x)))
        · rw [if_neg (by decide)]; rfl
        · rw [if_pos rfl]; rfl
theorem rround3_any (x : Nat) (hx : x < 4294967296) (w : World) : Calls Try.prog 26 #[.int .u32 (x : Int), .int .i64 3] w fun r w' => r = .returned (.int .u32 ((rndV .up x : Nat) : Int)) ∧ Below w.heap.size w w' := by
  have lx := cleanW_lt hx
  have HCX := Lib.hid (fun W => rclean_any x W)
  have HPX := Lib.hid (fun W => parts_any (cleanW x) lx W)
  have HFX := Lib.hid (fun W => finite_any (cleanW x) W)
  obtain ⟨_, cx⟩ := cls3 x hx
  rcases cx with ⟨hnx, hcx⟩ | ⟨hnx, hcx, hnex, ⟨hrx, hfx⟩ | ⟨hrx, hfx⟩⟩
  · have hv : rndV .up x = cleanW x := by unfold rndV; rw [if_pos hnx, hcx]
    have hf : finW (cleanW x) = false := by rw [hcx]; decide
    rw [hv]
    exact rround3_back x (cleanW x) _ _ _ w HCX HPX HFX (.inl hf)
  · have hv : rndV .up x = x := by unfold rndV; rw [hnx, if_neg (by decide), if_pos hrx]
    rw [hv]
    have h := rround3_back x (cleanW x) _ _ _ w HCX HPX HFX (.inl (by rw [hcx]; exact hfx))
    rw [hcx] at h
    exact h
  · by_cases hp : 0 ≤ pe (rg x)
    · rw [rnd_big .up x hx hrx hp]
      have h := rround3_back x (cleanW x) _ _ _ w HCX HPX HFX (.inr (by rw [hcx]; exact hp))
      rw [hcx] at h
      exact h
    · rw [hcx] at HCX HPX HFX
      rw [hfx] at HFX
      have HWX := Lib.hid (fun W => whole_any x hx W)
      have hN := wN_lt _ _ (pm_lt (rg x)) (show pe (rg x) < 0 by omega)
      have HF0 := Lib.hid (fun W => rfu_any (wN (pm (rg x)) (pe (rg x))) (by omega) W)
      have HF1 := Lib.hid (fun W => rfu_any (wN (pm (rg x)) (pe (rg x)) + 1) (by omega) W)
      have hS := sign_and x hx
      have ho0 := sign_or (sgn x) (Ieee.single.nearest false (wN (pm (rg x)) (pe (rg x))) 0) (by have := nearest_le (wN (pm (rg x)) (pe (rg x))) 0; omega)
      have ho1 := sign_or (sgn x) (Ieee.single.nearest false (wN (pm (rg x)) (pe (rg x)) + 1) 0) (by have := nearest_le (wN (pm (rg x)) (pe (rg x)) + 1) 0; omega)
      refine rround3_fin x _ _ _ _ _ _ _ _ (pe (rg x)) _ (sgn x) _ _ w HCX HPX HFX HWX HF0 HF1 (by omega) hS ?_ ?_ ?_ ho0 ho1 ?_
      · cases sgn x <;> decide
      · cases sgn x <;> decide
      · rw [IntKind.wrap_u64]; omega
      · rw [rnd_fin .up x hrx, cut_adj .up x (by omega)]
        cases adjW .up (sgn x) (wN (pm (rg x)) (pe (rg x))) (wC (pm (rg x)) (pe (rg x))) (wL (pm (rg x)) (pe (rg x)))
        · rw [if_neg (by decide)]; rfl
        · rw [if_pos rfl]; rfl
theorem rround4_any (x : Nat) (hx : x < 4294967296) (w : World) : Calls Try.prog 26 #[.int .u32 (x : Int), .int .i64 4] w fun r w' => r = .returned (.int .u32 ((rndV .even x : Nat) : Int)) ∧ Below w.heap.size w w' := by
  have lx := cleanW_lt hx
  have HCX := Lib.hid (fun W => rclean_any x W)
  have HPX := Lib.hid (fun W => parts_any (cleanW x) lx W)
  have HFX := Lib.hid (fun W => finite_any (cleanW x) W)
  obtain ⟨_, cx⟩ := cls3 x hx
  rcases cx with ⟨hnx, hcx⟩ | ⟨hnx, hcx, hnex, ⟨hrx, hfx⟩ | ⟨hrx, hfx⟩⟩
  · have hv : rndV .even x = cleanW x := by unfold rndV; rw [if_pos hnx, hcx]
    have hf : finW (cleanW x) = false := by rw [hcx]; decide
    rw [hv]
    exact rround4_back x (cleanW x) _ _ _ w HCX HPX HFX (.inl hf)
  · have hv : rndV .even x = x := by unfold rndV; rw [hnx, if_neg (by decide), if_pos hrx]
    rw [hv]
    have h := rround4_back x (cleanW x) _ _ _ w HCX HPX HFX (.inl (by rw [hcx]; exact hfx))
    rw [hcx] at h
    exact h
  · by_cases hp : 0 ≤ pe (rg x)
    · rw [rnd_big .even x hx hrx hp]
      have h := rround4_back x (cleanW x) _ _ _ w HCX HPX HFX (.inr (by rw [hcx]; exact hp))
      rw [hcx] at h
      exact h
    · rw [hcx] at HCX HPX HFX
      rw [hfx] at HFX
      have HWX := Lib.hid (fun W => whole_any x hx W)
      have hN := wN_lt _ _ (pm_lt (rg x)) (show pe (rg x) < 0 by omega)
      have HF0 := Lib.hid (fun W => rfu_any (wN (pm (rg x)) (pe (rg x))) (by omega) W)
      have HF1 := Lib.hid (fun W => rfu_any (wN (pm (rg x)) (pe (rg x)) + 1) (by omega) W)
      have hS := sign_and x hx
      have ho0 := sign_or (sgn x) (Ieee.single.nearest false (wN (pm (rg x)) (pe (rg x))) 0) (by have := nearest_le (wN (pm (rg x)) (pe (rg x))) 0; omega)
      have ho1 := sign_or (sgn x) (Ieee.single.nearest false (wN (pm (rg x)) (pe (rg x)) + 1) 0) (by have := nearest_le (wN (pm (rg x)) (pe (rg x)) + 1) 0; omega)
      refine rround4_fin x _ _ _ _ _ _ _ _ (pe (rg x)) _ (sgn x) _ _ w HCX HPX HFX HWX HF0 HF1 (by omega) hS ?_ ?_ ?_ ho0 ho1 ?_
      · cases sgn x <;> decide
      · cases sgn x <;> decide
      · rw [IntKind.wrap_u64]; omega
      · rw [rnd_fin .even x hrx, cut_adj .even x (by omega)]
        cases adjW .even (sgn x) (wN (pm (rg x)) (pe (rg x))) (wC (pm (rg x)) (pe (rg x))) (wL (pm (rg x)) (pe (rg x)))
        · rw [if_neg (by decide)]; rfl
        · rw [if_pos rfl]; rfl
theorem rround_any (x : Nat) (way : Int) (hx : x < 4294967296) (w : World) : Calls Try.prog 26 #[.int .u32 (x : Int), .int .i64 way] w fun r w' => r = .returned (.int .u32 ((rndW x way : Nat) : Int)) ∧ Below w.heap.size w w' := by
  unfold rndW
  by_cases c1 : way = 1
  · rw [if_pos c1]; subst c1; exact rround1_any x hx w
  rw [if_neg c1]
  by_cases c2 : way = 2
  · rw [if_pos c2]; subst c2; exact rround2_any x hx w
  rw [if_neg c2]
  by_cases c3 : way = 3
  · rw [if_pos c3]; subst c3; exact rround3_any x hx w
  rw [if_neg c3]
  by_cases c4 : way = 4
  · rw [if_pos c4]; subst c4; exact rround4_any x hx w
  rw [if_neg c4]
  exact rround_nil x way w (by omega)
end Go.Proofs.Ytoaecmoihbifoaa
