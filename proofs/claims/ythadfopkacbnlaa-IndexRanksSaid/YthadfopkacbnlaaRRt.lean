/-
  Reals: from chapter 3's Rt, what is needed here.
-/
import Derived.Test.YthadfopkacbnlaaRRd
namespace Go.R
open Ieee
set_option linter.unusedVariables false
set_option linter.unusedSimpArgs false

theorem lg_lt {B : Int} {m : Nat} {p f : Int} (h0 : 0 < m) (hB : B ≤ p) (hB2 : B ≤ f) (h : sc B 1 f ≤ sc B m p) : f ≤ p + m.log2 := by
  have h1 : m < 2 ^ (m.log2 + 1) := Nat.lt_log2_self
  have h2 : sc B m p < 2 ^ (m.log2 + 1) * 2 ^ (p - B).toNat := Nat.mul_lt_mul_of_pos_right h1 (Nat.two_pow_pos _)
  rw [← Nat.pow_add] at h2
  have h3 : 2 ^ (f - B).toNat < 2 ^ (m.log2 + 1 + (p - B).toNat) := by
    unfold sc at h; rw [Nat.one_mul] at h; exact Nat.lt_of_le_of_lt h h2
  have h4 := (Nat.pow_lt_pow_iff_right (by omega)).1 h3
  omega
theorem lg_le {B : Int} {m : Nat} {p f : Int} (h0 : 0 < m) (hB : B ≤ p) (hB2 : B ≤ f) (h : sc B m p ≤ sc B 1 f) : p + m.log2 ≤ f := by
  have h1 : 2 ^ m.log2 ≤ m := Nat.log2_self_le (by omega)
  have h2 : 2 ^ m.log2 * 2 ^ (p - B).toNat ≤ sc B m p := Nat.mul_le_mul_right _ h1
  rw [← Nat.pow_add] at h2
  have h3 : 2 ^ (m.log2 + (p - B).toNat) ≤ 2 ^ (f - B).toNat := by
    unfold sc at h; rw [Nat.one_mul] at h; exact Nat.le_trans h2 h
  have h4 := (Nat.pow_le_pow_iff_right (by omega)).1 h3
  omega
theorem icmp_zero_of {a b : Nat} (h : a = b) : icmp a b = 0 := icmp_eq.2 h
set_option maxHeartbeats 1000000 in
theorem root_all (m : Nat) (i : Int) (hm0 : 0 < m) (hm : m < 16777216) (hi : -149 ≤ i) (hi2 : i ≤ 104) :
    ∃ b2 m' p' M E, Ieee.double.read (Ieee.double.nearest false m i) = .number false M E ∧ Ieee.double.sqrt (Ieee.double.nearest false m i) = some b2 ∧ Ieee.double.read b2 = .number false m' p' ∧ 0 < m' ∧ -1074 ≤ p' ∧ p' + m'.log2 ≤ 64 ∧
      ∀ (k : Nat) (e : Int), k < 33554432 → -150 ≤ e → e ≤ 104 → icmp (sc (-5000) m' p') (sc (-5000) k e) = icmp (sc (-5000) m i) (sc (-5000) (k * k) (2 * e)) := by
  have hl : m.log2 < 24 := (Nat.log2_lt (by omega)).2 hm
  obtain ⟨M, E, r1, M0, M1, E0, E1, P1⟩ := dbl m i hm0 (by omega) (by omega)
  have hME : sc (-5000) M E = sc (-5000) m i := by
    obtain ⟨q1, q2⟩ := P1 m i (-5000) (by omega) (by omega) (by omega) (by omega) (by omega) (by omega)
    exact Nat.le_antisymm (q2 (Nat.le_refl _)) (q1 (Nat.le_refl _))
  have hM2 : M.log2 < 53 := (Nat.log2_lt (by omega)).2 M1
  obtain ⟨mo, hmo⟩ : ∃ mo : Nat, mo = 2 * 54 - M.log2 + ((E - ((2 * 54 - M.log2 : Nat) : Int)) % 2).toNat := ⟨_, rfl⟩
  obtain ⟨mag, hmag⟩ : ∃ mag, mag = 2 * whole (M <<< mo) + (whole (M <<< mo) * whole (M <<< mo) != M <<< mo).toNat := ⟨_, rfl⟩
  obtain ⟨pl, hpl⟩ : ∃ pl : Int, pl = (E - mo) / 2 - 1 := ⟨_, rfl⟩
  have hroot : (Ieee.double.read (Ieee.double.nearest false m i)).root 54 = some (.number false mag pl) := by
    rw [r1]
    unfold Datum.root
    dsimp only
    rw [if_neg (by omega), if_neg (by decide), ← hmo, hmag, hpl]
    rfl
  have hmo2 : 56 ≤ mo ∧ mo ≤ 109 := by omega
  have P2 : ∀ (k : Nat) (f : Int), k < 36028797018963968 → -2000 ≤ f → icmp (sc (-5000) mag pl) (sc (-5000) k f) = icmp (sc (-5000) m i) (sc (-5000) (k * k) (2 * f)) := by
    intro k f hk hf
    rw [← hME, hmag, hpl]
    exact root_cmp M E 54 M0 (by omega) k f hk (-5000) (-5000) mo hmo (by omega) (by omega) (by omega) (by omega)
  have hlow : sc (-5000) 1 (-75) ≤ sc (-5000) mag pl := by
    have h1 := P2 1 (-75) (by omega) (by omega)
    apply icmp_ge.1
    rw [h1]
    apply icmp_ge.2
    unfold sc
    exact Nat.mul_le_mul hm0 (Nat.pow_le_pow_right (by omega) (by omega))
  have hmag0 : 0 < mag := by
    apply Nat.pos_of_ne_zero
    intro h
    rw [h] at hlow
    unfold sc at hlow
    rw [Nat.zero_mul, Nat.one_mul] at hlow
    have := Nat.two_pow_pos (-75 - -5000 : Int).toNat
    omega
  have hhigh : sc (-5000) mag pl ≤ sc (-5000) 1 64 := by
    have h1 := P2 1 64 (by omega) (by omega)
    apply Nat.le_of_not_lt
    intro h
    have h2 := icmp_gt.2 h
    rw [h1, icmp_gt] at h2
    unfold sc at h2
    have h3 : m * 2 ^ (i - -5000).toNat < 2 ^ 24 * 2 ^ (i - -5000).toNat := Nat.mul_lt_mul_of_pos_right hm (Nat.two_pow_pos _)
    rw [← Nat.pow_add] at h3
    have h4 : (2 : Nat) ^ (24 + (i - -5000).toNat) ≤ 2 ^ (2 * 64 - -5000 : Int).toNat := Nat.pow_le_pow_right (by omega) (by omega)
    rw [Nat.mul_one, Nat.one_mul] at h2
    exact absurd (Nat.lt_of_lt_of_le h2 (Nat.le_trans (Nat.le_of_lt h3) h4)) (Nat.lt_irrefl _)
  have hlg1 := lg_lt hmag0 (by omega) (by omega) hlow
  have hlg2 := lg_le hmag0 (by omega) (by omega) hhigh
  obtain ⟨m', p', r2, m0, m1, p0, p1, P3⟩ := dbl mag pl hmag0 (by omega) (by omega)
  have P4 : ∀ (k : Nat) (f : Int), k < 9007199254740992 → -1074 ≤ f → (sc (-5000) k f ≤ sc (-5000) mag pl → sc (-5000) k f ≤ sc (-5000) m' p') ∧ (sc (-5000) mag pl ≤ sc (-5000) k f → sc (-5000) m' p' ≤ sc (-5000) k f) := fun k f hk hf =>
    P3 k f (-5000) hk (by omega) (by omega) (by omega) hf (by omega)
  refine ⟨Ieee.double.nearest false mag pl, m', p', M, E, r1, ?_, r2, m0, p0, ?_, ?_⟩
  · show ((Ieee.double.read (Ieee.double.nearest false m i)).root 54).map Ieee.double.write = _
    rw [hroot]; rfl
  · exact lg_le m0 (by omega) (by omega) ((P4 1 64 (by omega) (by omega)).2 hhigh)
  · intro k e hk he he2
    rcases Nat.lt_trichotomy (sc (-5000) m i) (sc (-5000) (k * k) (2 * e)) with h | h | h
    · obtain ⟨k', f', g1, g2, g3, g4⟩ := gap_down k e m i hk he hm0 hm hi (-5000) (by omega) (by omega) h
      have h1 := P2 k' f' (by omega) (by omega)
      have h2 : sc (-5000) mag pl ≤ sc (-5000) k' f' := by
        apply Nat.le_of_not_lt
        intro hh
        have h3 := icmp_gt.2 hh
        rw [h1, icmp_gt] at h3
        exact absurd (g4 (-5000) (by omega) (by omega)) (Nat.not_le.2 h3)
      have h3 := Nat.lt_of_le_of_lt ((P4 k' f' g1 (by omega)).2 h2) (g3 (-5000) (by omega) (by omega))
      exact icmp_congr ⟨fun _ => h, fun _ => h3⟩ ⟨fun hh => absurd hh (Nat.lt_asymm h3), fun hh => absurd hh (Nat.lt_asymm h)⟩
    · have h1 := P2 k e (by omega) (by omega)
      rw [icmp_zero_of h] at h1
      have h2 := icmp_eq.1 h1
      have h3 : sc (-5000) m' p' = sc (-5000) k e := Nat.le_antisymm ((P4 k e (by omega) (by omega)).2 (Nat.le_of_eq h2)) ((P4 k e (by omega) (by omega)).1 (Nat.le_of_eq h2.symm))
      rw [icmp_zero_of h, icmp_zero_of h3]
    · obtain ⟨k', f', g1, g2, g3, g4⟩ := gap_up k e m i hk he hm0 hm hi (-5000) (by omega) (by omega) h
      have h1 := P2 k' f' (by omega) (by omega)
      have h2 : sc (-5000) k' f' ≤ sc (-5000) mag pl := by
        apply icmp_ge.1
        rw [h1]
        exact icmp_ge.2 (g4 (-5000) (by omega) (by omega))
      have h3 := Nat.lt_of_lt_of_le (g3 (-5000) (by omega) (by omega)) ((P4 k' f' g1 (by omega)).1 h2)
      exact icmp_one h3 h
end Go.R
