/-
  Layer 3, the reference: the whole part of a word.
-/
import Derived.Test.YtoaecmoihbifoaaOd
namespace Go.Proofs.Ytoaecmoihbifoaa
open Go.RowKit Go.K Go.R
set_option linter.unusedVariables false
set_option linter.unusedSimpArgs false
/-- How many whole ones, how what is left stands to a half, is something left? -/
def wN (m : Nat) (e : Int) : Nat := if 0 ≤ e then (if 40 < e then 9223372036854775808 else m * 2 ^ e.toNat) else if e < -40 then 0 else m / 2 ^ (-e).toNat
def wC (m : Nat) (e : Int) : Int := if 0 ≤ e then -1 else if e < -40 then -1 else icmp (m % 2 ^ (-e).toNat) (2 ^ ((-e).toNat - 1))
def wL (m : Nat) (e : Int) : Bool := if 0 ≤ e then false else if e < -40 then decide (0 < m) else decide (0 < m % 2 ^ (-e).toNat)
def Prt (x : Nat) (m : Nat) (e : Int) : Prop := ∀ W, Calls Try.prog 54 #[.int .u32 (x : Int)] W fun r w' => r = .returned (.tuple #[.int .i64 (m : Int), .int .i64 e]) ∧ W = w'
set_option maxRecDepth 100000 in
theorem whole_A (x m : Nat) (e : Int) (w : World) (he : 40 < e) (HP : Prt x m e) : Calls Try.prog 63 #[.int .u32 (x : Int)] w fun r w' => r = .returned (.tuple #[.int .u64 9223372036854775808, .int .i64 (-1), .bool false]) ∧ w = w' := by
  have t0 : decide (e ≥ 0) = true := decide_eq_true (by omega)
  have t1 : decide (e > 40) = true := decide_eq_true he
  unfold Prt at HP
  go_enter Try.func63, Try.ntmps63
  go_wp2_with (go_at_call 54; (with_reducible refine (HP _).mono ?_); rintro r1 y1 ⟨rfl, rfl⟩)
  go_ret3
  exact ⟨rfl, rfl⟩
set_option maxRecDepth 100000 in
theorem whole_B (x m k P : Nat) (w : World) (hm : m < 16777216) (hk : k ≤ 40) (hP : IntKind.u64.wrap ((m : Int) * 2 ^ k) = (P : Int)) (HP : Prt x m (k : Int)) : Calls Try.prog 63 #[.int .u32 (x : Int)] w fun r w' => r = .returned (.tuple #[.int .u64 (P : Int), .int .i64 (-1), .bool false]) ∧ w = w' := by
  have t0 : decide ((k : Int) > 40) = false := decide_eq_false (by omega)
  have t1 : decide (40 < k) = false := decide_eq_false (by omega)
  have hw : IntKind.u64.wrap (m : Int) = (m : Int) := by rw [IntKind.wrap_u64]; omega
  have hw2 : IntKind.u64.wrap (k : Int) = (k : Int) := by rw [IntKind.wrap_u64]; omega
  have HPP := Lib.hid hP
  clear hP
  unfold Prt at HP
  go_enter Try.func63, Try.ntmps63
  go_wp2_with (go_at_call 54; (with_reducible refine (HP _).mono ?_); rintro r1 y1 ⟨rfl, rfl⟩)
  go_ret3
  exact ⟨by rw [← HPP.out]; rfl, rfl⟩
set_option maxRecDepth 100000 in
theorem whole_C (x m : Nat) (e : Int) (w : World) (he : e < -40) (HP : Prt x m e) : Calls Try.prog 63 #[.int .u32 (x : Int)] w fun r w' => r = .returned (.tuple #[.int .u64 0, .int .i64 (-1), .bool (decide (0 < m))]) ∧ w = w' := by
  have t0 : decide (e ≥ 0) = false := decide_eq_false (by omega)
  have t1 : decide (e < -40) = true := decide_eq_true he
  have HD := Lib.hid (show decide ((m : Int) > 0) = decide (0 < m) by simp)
  unfold Prt at HP
  go_enter Try.func63, Try.ntmps63
  go_wp2_with (go_at_call 54; (with_reducible refine (HP _).mono ?_); rintro r1 y1 ⟨rfl, rfl⟩)
  go_ret3
  exact ⟨rfl, rfl⟩
set_option maxRecDepth 100000 in
set_option maxHeartbeats 1000000 in
theorem whole_D (x m k q s r h : Nat) (w : World) (hm : m < 16777216) (hk : k ≤ 40) (hk2 : 0 < k) (hq : (m : Int) / 2 ^ k = (q : Int)) (hs : wrap64 ((q : Int) * 2 ^ k) = (s : Int)) (hr : wrap64 ((m : Int) - (s : Int)) = (r : Int)) (hh : wrap64 ((2 : Int) ^ (k - 1)) = (h : Int)) (hq2 : q < 16777216)
    (HP : Prt x m (-(k : Int))) : Calls Try.prog 63 #[.int .u32 (x : Int)] w fun e w' => e = .returned (.tuple #[.int .u64 (q : Int), .int .i64 (icmp r h), .bool (decide (0 < r))]) ∧ w = w' := by
  have t0 : decide (-(k : Int) ≥ 0) = false := decide_eq_false (by omega)
  have t1 : decide (-(k : Int) < -40) = false := decide_eq_false (by omega)
  have t2 : decide (k = 0) = false := decide_eq_false (by omega)
  have t3 : decide (40 < k) = false := decide_eq_false (by omega)
  have hw : IntKind.u64.wrap (q : Int) = (q : Int) := by rw [IntKind.wrap_u64]; omega
  rcases Nat.lt_trichotomy r h with hc | hc | hc
  · have c1 : decide ((r : Int) < (h : Int)) = true := decide_eq_true (by omega)
    have c2 : decide (r < h) = true := decide_eq_true (by omega)
    have c3 : decide ((r : Int) > (h : Int)) = false := decide_eq_false (by omega)
    have c4 : decide (h < r) = false := decide_eq_false (by omega)
    have HI := Lib.hid (icmp_lt_eq hc)
    have hc0 := hc
    clear hc
    unfold Prt at HP
    go_enter Try.func63, Try.ntmps63
    go_wp2_with (go_at_call 54; (with_reducible refine (HP _).mono ?_); rintro r1 y1 ⟨rfl, rfl⟩)
    all_goals
      go_ret3
      first
        | exact ⟨by rw [HI.out]; rfl, rfl⟩
        | exact ⟨by rw [HI.out]; simp [hc0], rfl⟩
        | (exfalso; omega)
  · have c1 : decide ((r : Int) < (h : Int)) = false := decide_eq_false (by omega)
    have c2 : decide (r < h) = false := decide_eq_false (by omega)
    have c3 : decide ((r : Int) > (h : Int)) = false := decide_eq_false (by omega)
    have c4 : decide (h < r) = false := decide_eq_false (by omega)
    have HI := Lib.hid (icmp_eq.2 hc)
    have hc0 := hc
    clear hc
    unfold Prt at HP
    go_enter Try.func63, Try.ntmps63
    go_wp2_with (go_at_call 54; (with_reducible refine (HP _).mono ?_); rintro r1 y1 ⟨rfl, rfl⟩)
    all_goals
      go_ret3
      first
        | exact ⟨by rw [HI.out]; rfl, rfl⟩
        | exact ⟨by rw [HI.out]; simp [hc0], rfl⟩
        | (exfalso; omega)
  · have c1 : decide ((r : Int) < (h : Int)) = false := decide_eq_false (by omega)
    have c2 : decide (r < h) = false := decide_eq_false (by omega)
    have c3 : decide ((r : Int) > (h : Int)) = true := decide_eq_true (by omega)
    have c4 : decide (h < r) = true := decide_eq_true (by omega)
    have HI := Lib.hid (icmp_gt_eq hc)
    have hc0 := hc
    clear hc
    unfold Prt at HP
    go_enter Try.func63, Try.ntmps63
    go_wp2_with (go_at_call 54; (with_reducible refine (HP _).mono ?_); rintro r1 y1 ⟨rfl, rfl⟩)
    all_goals
      go_ret3
      first
        | exact ⟨by rw [HI.out]; rfl, rfl⟩
        | exact ⟨by rw [HI.out]; simp [hc0], rfl⟩
        | (exfalso; omega)
theorem wrap_u64n (P : Nat) (h : P ≤ 16777215 * 1099511627776) : IntKind.u64.wrap ((P : Nat) : Int) = (P : Int) := by rw [IntKind.wrap_u64]; omega
theorem pow_le_40 {k : Nat} (h : k ≤ 40) : 2 ^ k ≤ 1099511627776 := by
  have h1 : (2 : Nat) ^ k ≤ 2 ^ 40 := Nat.pow_le_pow_right (by decide) h
  have h2 : (2 : Nat) ^ 40 = 1099511627776 := by decide
  rw [h2] at h1
  exact h1
theorem whole_any (x : Nat) (hx : x < 4294967296) (w : World) : Calls Try.prog 63 #[.int .u32 (x : Int)] w fun r w' => r = .returned (.tuple #[.int .u64 ((wN (pm (rg x)) (pe (rg x)) : Nat) : Int), .int .i64 (wC (pm (rg x)) (pe (rg x))), .bool (wL (pm (rg x)) (pe (rg x)))]) ∧ w = w' := by
  have HP : Prt x (pm (rg x)) (pe (rg x)) := fun W => parts_any x hx W
  have hm := pm_lt (rg x)
  generalize pm (rg x) = m at *
  generalize pe (rg x) = e at *
  by_cases h0 : 0 ≤ e
  · by_cases h1 : 40 < e
    · have a1 : wN m e = 9223372036854775808 := by unfold wN; rw [if_pos h0, if_pos h1]
      have a2 : wC m e = -1 := by unfold wC; rw [if_pos h0]
      have a3 : wL m e = false := by unfold wL; rw [if_pos h0]
      rw [a1, a2, a3]
      exact whole_A x m e w h1 HP
    · obtain ⟨k, hk⟩ : ∃ k : Nat, e = (k : Int) := ⟨e.toNat, by omega⟩
      have a1 : wN m e = m * 2 ^ k := by
        unfold wN; rw [if_pos h0, if_neg h1, show e.toNat = k by omega]
      have a2 : wC m e = -1 := by unfold wC; rw [if_pos h0]
      have a3 : wL m e = false := by unfold wL; rw [if_pos h0]
      rw [a1, a2, a3]
      rw [hk] at HP
      have hp := pow_le_40 (show k ≤ 40 by omega)
      have hlt : m * 2 ^ k ≤ 16777215 * 1099511627776 := Nat.mul_le_mul (by omega) hp
      refine whole_B x m k (m * 2 ^ k) w hm (by omega) ?_ HP
      have e1 : (m : Int) * 2 ^ k = ((m * 2 ^ k : Nat) : Int) := by simp
      rw [e1]
      exact wrap_u64n _ hlt
  · by_cases h1 : e < -40
    · have a1 : wN m e = 0 := by unfold wN; rw [if_neg h0, if_pos h1]
      have a2 : wC m e = -1 := by unfold wC; rw [if_neg h0, if_pos h1]
      have a3 : wL m e = decide (0 < m) := by unfold wL; rw [if_neg h0, if_pos h1]
      rw [a1, a2, a3]
      exact whole_C x m e w h1 HP
    · obtain ⟨k, hk⟩ : ∃ k : Nat, e = -(k : Int) := ⟨(-e).toNat, by omega⟩
      have hkk : (-e).toNat = k := by omega
      have a1 : wN m e = m / 2 ^ k := by unfold wN; rw [if_neg h0, if_neg h1, hkk]
      have a2 : wC m e = icmp (m % 2 ^ k) (2 ^ (k - 1)) := by unfold wC; rw [if_neg h0, if_neg h1, hkk]
      have a3 : wL m e = decide (0 < m % 2 ^ k) := by unfold wL; rw [if_neg h0, if_neg h1, hkk]
      rw [a1, a2, a3]
      rw [hk] at HP
      have hdm := Nat.div_add_mod m (2 ^ k)
      have hq2 : m / 2 ^ k ≤ m := Nat.div_le_self _ _
      have hpw := pow_le_40 (show k - 1 ≤ 40 by omega)
      have hsl : m / 2 ^ k * 2 ^ k ≤ m := Nat.div_mul_le_self _ _
      refine whole_D x m k (m / 2 ^ k) (m / 2 ^ k * 2 ^ k) (m % 2 ^ k) (2 ^ (k - 1)) w hm (by omega) (by omega) ?_ ?_ ?_ ?_ (by omega) HP
      · simp
      · have e1 : ((m / 2 ^ k : Nat) : Int) * 2 ^ k = ((m / 2 ^ k * 2 ^ k : Nat) : Int) := by simp
        rw [e1]
        generalize m / 2 ^ k * 2 ^ k = P at *
        unfold wrap64; omega
      · have e2 : (m : Int) - ((m / 2 ^ k * 2 ^ k : Nat) : Int) = ((m % 2 ^ k : Nat) : Int) := by
          rw [Nat.mul_comm]
          generalize 2 ^ k * (m / 2 ^ k) = P at *
          omega
        rw [e2]
        have : m % 2 ^ k ≤ m := Nat.mod_le _ _
        generalize m % 2 ^ k = P at *
        unfold wrap64; omega
      · have e3 : ((2 : Int) ^ (k - 1)) = ((2 ^ (k - 1) : Nat) : Int) := by simp
        rw [e3]
        generalize 2 ^ (k - 1) = P at *
        unfold wrap64; omega
end Go.Proofs.Ytoaecmoihbifoaa
