/-
  Reals: from chapter 3's Rq, what is needed here.
-/
import Derived.Test.YthadfopkacbnlaaRRn
namespace Go.R
open Ieee
set_option linter.unusedVariables false
set_option linter.unusedSimpArgs false

theorem icmp_congr {a b c d : Nat} (h1 : a < b ↔ c < d) (h2 : b < a ↔ d < c) : icmp a b = icmp c d := by
  unfold icmp; simp only [h1, h2]
theorem icmp_one {a b c d : Nat} (h1 : b < a) (h2 : d < c) : icmp a b = icmp c d := by
  rw [icmp_congr]
  · exact ⟨fun h => absurd h (by omega), fun h => absurd h (by omega)⟩
  · exact ⟨fun _ => h2, fun _ => h1⟩
theorem sc_self (m : Nat) (e : Int) : sc e m e = m := by unfold sc; rw [Int.sub_self]; simp
theorem sc_up (B : Int) (m : Nat) (e f : Int) (h : B ≤ e) (h2 : e ≤ f) : sc B m f = sc B (m * 2 ^ (f - e).toNat) e := by
  rw [sc_mul B m _ e h]; congr 1; omega
theorem rootFrom_spec (n : Nat) : ∀ todo root, root * root ≤ n → n < (root + 2 ^ todo) * (root + 2 ^ todo) → Datum.rootFrom n todo root * Datum.rootFrom n todo root ≤ n ∧ n < (Datum.rootFrom n todo root + 1) * (Datum.rootFrom n todo root + 1)
  | 0, root, h1, h2 => by
    unfold Datum.rootFrom
    exact ⟨h1, h2⟩
  | todo + 1, root, h1, h2 => by
    unfold Datum.rootFrom
    dsimp only
    rw [Nat.one_shiftLeft]
    by_cases hc : (root + 2 ^ todo) * (root + 2 ^ todo) ≤ n
    · rw [if_pos hc]
      refine rootFrom_spec n todo _ hc ?_
      rw [show root + 2 ^ todo + 2 ^ todo = root + 2 ^ (todo + 1) by rw [Nat.pow_succ]; omega]
      exact h2
    · rw [if_neg hc]
      exact rootFrom_spec n todo _ h1 (by omega)
/-- The whole root. -/
def whole (n : Nat) : Nat := Datum.rootFrom n (n.log2 / 2 + 1) 0
theorem whole_spec (n : Nat) : whole n * whole n ≤ n ∧ n < (whole n + 1) * (whole n + 1) := by
  refine rootFrom_spec n _ 0 (by omega) ?_
  rw [Nat.zero_add, ← Nat.pow_add]
  by_cases h : n = 0
  · subst h; exact Nat.two_pow_pos _
  · have h1 : n < 2 ^ (n.log2 + 1) := Nat.lt_log2_self
    have h2 : (2 : Nat) ^ (n.log2 + 1) ≤ 2 ^ (n.log2 / 2 + 1 + (n.log2 / 2 + 1)) := Nat.pow_le_pow_right (by omega) (by omega)
    omega
theorem root_core (n r y : Nat) (h1 : r * r ≤ n) (h2 : n < (r + 1) * (r + 1)) : icmp (2 * r + (r * r != n).toNat) (2 * y) = icmp n (y * y) := by
  have h6 : (r * r != n).toNat ≤ 1 := by cases (r * r != n) <;> decide
  rcases Nat.lt_trichotomy r y with h | h | h
  · have h3 : (r + 1) * (r + 1) ≤ y * y := Nat.mul_le_mul h h
    refine icmp_congr ⟨fun _ => by omega, fun _ => by omega⟩ ⟨fun hh => absurd hh (by omega), fun hh => absurd hh (by omega)⟩
  · subst h
    by_cases h0 : r * r = n
    · have h6 : (r * r != n).toNat = 0 := by rw [h0]; simp
      rw [h6]
      refine icmp_congr ⟨fun hh => absurd hh (by omega), fun hh => absurd hh (by omega)⟩ ⟨fun hh => absurd hh (by omega), fun hh => absurd hh (by omega)⟩
    · have h6 : (r * r != n).toNat = 1 := by rw [bne_iff_ne.2 h0]; rfl
      rw [h6]
      refine icmp_congr ⟨fun hh => absurd hh (by omega), fun hh => absurd hh (by omega)⟩ ⟨fun _ => by omega, fun _ => by omega⟩
  · have h3 : (y + 1) * (y + 1) ≤ r * r := Nat.mul_le_mul h h
    have h4 : (y + 1) * (y + 1) = y * y + y + y + 1 := by rw [Nat.add_mul, Nat.mul_add]; omega
    refine icmp_congr ⟨fun hh => absurd hh (by omega), fun hh => absurd hh (by omega)⟩ ⟨fun _ => by omega, fun _ => by omega⟩
/-- The root, cut, against a short number. -/
theorem root_cmp (M : Nat) (E : Int) (dg : Nat) (hM : 0 < M) (hM2 : M.log2 ≤ 2 * dg) (k : Nat) (f : Int) (hk : k < 2 ^ (dg + 1)) (B C : Int) (mo : Nat) (hmo : mo = 2 * dg - M.log2 + ((E - ((2 * dg - M.log2 : Nat) : Int)) % 2).toNat)
    (hB1 : B ≤ (E - mo) / 2 - 1) (hB2 : B ≤ f) (hC1 : C ≤ E) (hC2 : C ≤ 2 * f) :
    icmp (sc B (2 * whole (M <<< mo) + (whole (M <<< mo) * whole (M <<< mo) != M <<< mo).toNat) ((E - mo) / 2 - 1)) (sc B k f) = icmp (sc C M E) (sc C (k * k) (2 * f)) := by
  have l1 : 2 ^ M.log2 ≤ M := Nat.log2_self_le (by omega)
  have hD : 2 ^ (2 * dg) ≤ M <<< mo := by
    rw [Nat.shiftLeft_eq]
    calc 2 ^ (2 * dg) ≤ 2 ^ (M.log2 + mo) := Nat.pow_le_pow_right (by omega) (by omega)
      _ = 2 ^ M.log2 * 2 ^ mo := Nat.pow_add _ _ _
      _ ≤ M * 2 ^ mo := Nat.mul_le_mul_right _ l1
  have hev : ∃ p : Int, E - mo = 2 * p := ⟨(E - mo) / 2, by omega⟩
  obtain ⟨p, hp⟩ := hev
  have hp2 : (E - mo) / 2 - 1 = p - 1 := by omega
  rw [hp2] at hB1 ⊢
  have hDE : M <<< mo = M * 2 ^ mo := Nat.shiftLeft_eq _ _
  obtain ⟨w1, w2⟩ := whole_spec (M <<< mo)
  generalize M <<< mo = n at *
  generalize whole n = r at *
  have hr : 2 ^ dg ≤ r := by
    apply Nat.le_of_lt_succ
    apply Nat.lt_of_not_le
    intro h
    have := Nat.mul_le_mul h h
    rw [← Nat.pow_add, show dg + dg = 2 * dg by omega] at this
    exact absurd (Nat.lt_of_lt_of_le w2 this) (Nat.not_lt.2 hD)
  by_cases ht : p - 1 < f
  · have k1 := icmp_base (B := p - 1) (C := B) (m := 2 * r + (r * r != n).toNat) (n := k) (e := p - 1) (f := f) hB1 (by omega) (by omega)
    rw [k1, sc_self]
    obtain ⟨t, ht⟩ : ∃ t : Nat, f = p - 1 + (t + 1) := ⟨(f - (p - 1) - 1).toNat, by omega⟩
    have k2 : sc (p - 1) k f = 2 * (k * 2 ^ t) := by
      unfold sc
      rw [show (f - (p - 1)).toNat = t + 1 by omega, Nat.pow_succ, ← Nat.mul_assoc, Nat.mul_comm _ 2]
    rw [k2, root_core n r _ w1 w2]
    rw [← icmp_base (B := C) (C := min C (2 * p)) (m := M) (n := k * k) (e := E) (f := 2 * f) (by omega) hC1 hC2]
    have k3 : sc (min C (2 * p)) M E = n * 2 ^ (2 * p - min C (2 * p)).toNat := by
      have := sc_up (min C (2 * p)) M (2 * p) E (by omega) (by omega)
      rw [this, show (E - 2 * p).toNat = mo by omega, ← hDE]; rfl
    have k4 : sc (min C (2 * p)) (k * k) (2 * f) = k * 2 ^ t * (k * 2 ^ t) * 2 ^ (2 * p - min C (2 * p)).toNat := by
      have := sc_up (min C (2 * p)) (k * k) (2 * p) (2 * f) (by omega) (by omega)
      rw [this, show (2 * f - 2 * p).toNat = t + t by omega, Nat.pow_add]
      unfold sc
      rw [Nat.mul_mul_mul_comm k k]
    rw [k3, k4, icmp_mul _ _ _ (Nat.two_pow_pos _)]
  · have hpw : (2 : Nat) ^ (dg + 1) = 2 * 2 ^ dg := by rw [Nat.pow_succ, Nat.mul_comm]
    refine icmp_one ?_ ?_
    · have k1 := sc_up B (2 * r + (r * r != n).toNat) f (p - 1) hB2 (by omega)
      rw [k1]
      unfold sc
      refine Nat.mul_lt_mul_of_pos_right ?_ (Nat.two_pow_pos _)
      have h2 : (2 * r + (r * r != n).toNat) * 1 ≤ (2 * r + (r * r != n).toNat) * 2 ^ (p - 1 - f).toNat := Nat.mul_le_mul_left _ (Nat.two_pow_pos _)
      omega
    · have hlt : ∀ A : Int, A ≤ 2 * f → A ≤ 2 * p - 2 → sc A (k * k) (2 * f) < sc A M E := by
        intro A h1 h2
        have k1 := sc_up A M (2 * p - 2) E h2 (by omega)
        have k2 := sc_up A (k * k) (2 * f) (2 * p - 2) h1 (by omega)
        rw [k1, show (E - (2 * p - 2)).toNat = mo + 2 by omega, Nat.pow_add, ← Nat.mul_assoc, ← hDE]
        have h3 : sc A (k * k) (2 * f) ≤ sc A (k * k) (2 * p - 2) := by
          rw [k2]; unfold sc
          refine Nat.mul_le_mul_right _ ?_
          exact Nat.le_mul_of_pos_right _ (Nat.two_pow_pos _)
        refine Nat.lt_of_le_of_lt h3 ?_
        unfold sc
        refine Nat.mul_lt_mul_of_pos_right ?_ (Nat.two_pow_pos _)
        have h4 : k * k < 2 ^ (dg + 1) * 2 ^ (dg + 1) := Nat.mul_self_lt_mul_self hk
        rw [← Nat.pow_add, show dg + 1 + (dg + 1) = 2 * dg + 2 by omega, Nat.pow_add] at h4
        have h5 : 2 ^ (2 * dg) * 2 ^ 2 ≤ n * 2 ^ 2 := Nat.mul_le_mul_right _ hD
        omega
      have := hlt (min C (2 * p - 2)) (by omega) (by omega)
      rw [sc_low C (min C (2 * p - 2)) (k * k) (2 * f) (by omega) hC2, sc_low C (min C (2 * p - 2)) M E (by omega) hC1] at this
      exact Nat.lt_of_mul_lt_mul_right this
end Go.R
