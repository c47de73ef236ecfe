/-
  Layer 18: rounding to the nearest real, as a function of a whole number of units of 2 ^ -300; it keeps order, and what is a real stays.
-/
import Derived.Test.YthadfopkacbnlaaTa
namespace Go.Proofs.Ythadfopkacbnlaa.fl
open Ieee
set_option linter.unusedVariables false
set_option linter.unusedSimpArgs false
open n03 (rg sgn wd opW)
/-- The rung of a number of units. -/
def N (X : Nat) : Nat := min ((X.log2 - 174) * 8388608 + (X / 2 ^ (X.log2 - 174 + 151) + (R.more X (2 ^ (X.log2 - 174 + 151))).toNat)) 2139095040
/-- What a rung stands for. -/
def V (r : Nat) : Nat := R.sc (-300) (R.pm r) (R.pe r)
theorem log2_mono {a b : Nat} (h : a ≤ b) : a.log2 ≤ b.log2 := by
  by_cases ha : a = 0
  · subst ha; simp
  · exact (Nat.le_log2 (by omega)).2 (Nat.le_trans (Nat.log2_self_le ha) h)
theorem log2_pow {m : Nat} (k : Nat) (h : m ≠ 0) : (m * 2 ^ k).log2 = m.log2 + k := by
  have hp := Nat.two_pow_pos k
  have h1 : m * 2 ^ k ≠ 0 := Nat.mul_ne_zero h (by omega)
  have a : m.log2 + k ≤ (m * 2 ^ k).log2 := (Nat.le_log2 h1).2 (by rw [Nat.pow_add]; exact Nat.mul_le_mul_right _ (Nat.log2_self_le h))
  have b : (m * 2 ^ k).log2 < m.log2 + k + 1 := (Nat.log2_lt h1).2 (by
    rw [show m.log2 + k + 1 = (m.log2 + 1) + k by omega, Nat.pow_add]; exact Nat.mul_lt_mul_of_pos_right Nat.lt_log2_self hp)
  omega
theorem N_zero : N 0 = 0 := by decide +kernel
theorem near_N (neg : Bool) (mag : Nat) (place : Int) (hp : -300 ≤ place) : single.nearest neg mag place = wd neg (N (R.sc (-300) mag place)) := by
  unfold Format.nearest
  by_cases h0 : mag = 0
  · subst h0
    rw [if_pos rfl, n03.wd_word]
    rw [show R.sc (-300) 0 place = 0 from Nat.zero_mul _, N_zero]
  · rw [if_neg h0, R.single_least, R.single_binade, R.single_inf, n03.wd_word]
    have hf : (single.fractionBits : Int) = 23 := rfl
    rw [hf]
    have hlog : (R.sc (-300) mag place).log2 = mag.log2 + (place + 300).toNat := by
      unfold R.sc
      rw [show place - -300 = place + 300 by omega, log2_pow _ h0]
    obtain ⟨last, hlast⟩ : ∃ last, last = max (place + (mag.log2 : Int) - 23) (-149) := ⟨_, rfl⟩
    have hl0 : -149 ≤ last := by omega
    rw [← hlast, R.cut_units neg mag place last (-300) hp (by omega)]
    have e1 : (last - -300).toNat = (R.sc (-300) mag place).log2 - 174 + 151 := by rw [hlog]; omega
    have e2 : (last - -149).toNat = (R.sc (-300) mag place).log2 - 174 := by rw [hlog]; omega
    rw [e1, e2]
    rfl
theorem more_le (X U : Nat) : (R.more X U).toNat ≤ 1 := by cases R.more X U <;> decide
theorem more_mono {X Y U : Nat} (h : X ≤ Y) (hq : X / U = Y / U) : (R.more X U).toNat ≤ (R.more Y U).toNat := by
  have hx := Nat.div_add_mod X U
  have hy := Nat.div_add_mod Y U
  rw [hq] at hx
  have hm : X % U ≤ Y % U := by omega
  have : R.more X U = true → R.more Y U = true := by
    unfold R.more
    rw [hq]
    simp only [Bool.or_eq_true, decide_eq_true_eq, Bool.and_eq_true, beq_iff_eq]
    rintro (h1 | ⟨h1, h2⟩)
    · left; omega
    · by_cases h3 : U < 2 * (Y % U)
      · left; exact h3
      · right; exact ⟨by omega, h2⟩
  cases hX : R.more X U with
  | false => simp
  | true => rw [this hX]; exact Nat.le_refl _
theorem N_mono {X Y : Nat} (h : X ≤ Y) : N X ≤ N Y := by
  have hl := log2_mono h
  unfold N
  obtain ⟨s, hs⟩ : ∃ s, s = X.log2 - 174 := ⟨_, rfl⟩
  obtain ⟨t, ht⟩ : ∃ t, t = Y.log2 - 174 := ⟨_, rfl⟩
  rw [← hs, ← ht]
  suffices hk : s * 8388608 + (X / 2 ^ (s + 151) + (R.more X (2 ^ (s + 151))).toNat) ≤ t * 8388608 + (Y / 2 ^ (t + 151) + (R.more Y (2 ^ (t + 151))).toNat) by exact Nat.le_min.2 ⟨Nat.le_trans (Nat.min_le_left _ _) hk, Nat.min_le_right _ _⟩
  by_cases hst : s = t
  · subst hst
    have hd : X / 2 ^ (s + 151) ≤ Y / 2 ^ (s + 151) := Nat.div_le_div_right h
    by_cases he : X / 2 ^ (s + 151) = Y / 2 ^ (s + 151)
    · have := more_mono h he
      exact Nat.add_le_add_left (Nat.add_le_add hd this) _
    · have := more_le X (2 ^ (s + 151))
      exact Nat.add_le_add_left (Nat.le_trans (Nat.add_le_add_left this _) (Nat.le_trans (Nat.lt_of_le_of_ne hd he) (Nat.le_add_right _ _))) _
  · have hlt : s < t := by omega
    have h1 : X < 16777216 * 2 ^ (s + 151) := by
      have a := @Nat.lt_log2_self X
      have b : 2 ^ (X.log2 + 1) ≤ 2 ^ (24 + (s + 151)) := Nat.pow_le_pow_right (by omega) (by omega)
      rw [Nat.pow_add 2 24, show (2 : Nat) ^ 24 = 16777216 from rfl] at b
      exact Nat.lt_of_lt_of_le a b
    have h2 : 8388608 * 2 ^ (t + 151) ≤ Y := by
      have hy : Y ≠ 0 := fun e => by rw [e] at ht; simp at ht; omega
      have a := Nat.log2_self_le hy
      have b : 2 ^ (23 + (t + 151)) ≤ 2 ^ Y.log2 := Nat.pow_le_pow_right (by omega) (by omega)
      rw [Nat.pow_add 2 23, show (2 : Nat) ^ 23 = 8388608 from rfl] at b
      exact Nat.le_trans b a
    have h3 : X / 2 ^ (s + 151) < 16777216 := (Nat.div_lt_iff_lt_mul (Nat.two_pow_pos _)).2 h1
    have h4 : 8388608 ≤ Y / 2 ^ (t + 151) := (Nat.le_div_iff_mul_le (Nat.two_pow_pos _)).2 h2
    have h5 := more_le X (2 ^ (s + 151))
    generalize X / 2 ^ (s + 151) = xx at *
    generalize Y / 2 ^ (t + 151) = yy at *
    generalize (R.more X (2 ^ (s + 151))).toNat = mm at *
    clear h1 h2 hl h
    omega
theorem parts (r : Nat) : ∃ s c, r = s * 8388608 + c ∧ (s = 0 ∨ 8388608 ≤ c) ∧ c < 16777216 ∧ V r = c * 2 ^ (s + 151) := by
  by_cases h : r < 8388608
  · refine ⟨0, r, by omega, .inl rfl, by omega, ?_⟩
    unfold V R.sc R.pm R.pe
    rw [if_pos h, if_pos h, show ((-149 : Int) - -300).toNat = 0 + 151 by decide]
  · refine ⟨r / 8388608 - 1, r % 8388608 + 8388608, by omega, .inr (by omega), by omega, ?_⟩
    unfold V R.sc R.pm R.pe
    rw [if_neg h, if_neg h]
    congr 2
    omega
theorem N_V {r : Nat} (hr : r ≤ 2139095040) : N (V r) = r := by
  obtain ⟨s, c, rfl, h1, h2, hv⟩ := parts r
  rw [hv]
  by_cases h0 : c = 0
  · subst h0
    have : s = 0 := by omega
    subst this
    rw [Nat.zero_mul]
    exact N_zero
  · have hl : (c * 2 ^ (s + 151)).log2 = c.log2 + (s + 151) := log2_pow _ h0
    have hs : (c * 2 ^ (s + 151)).log2 - 174 = s := by
      rw [hl]
      have a : c.log2 < 24 := (Nat.log2_lt h0).2 (by omega)
      rcases h1 with h1 | h1
      · omega
      · have b : 23 ≤ c.log2 := (Nat.le_log2 h0).2 (by omega)
        omega
    unfold N
    rw [hs, Nat.mul_div_cancel _ (Nat.two_pow_pos _)]
    have hm : R.more (c * 2 ^ (s + 151)) (2 ^ (s + 151)) = false := by
      unfold R.more
      rw [Nat.mul_mod_left]
      have := Nat.two_pow_pos (s + 151)
      simp
    rw [hm]
    show min (s * 8388608 + (c + 0)) _ = _
    omega
theorem V_mono {a b : Nat} (hb : a ≤ b) (h : b ≤ 2139095040) : V a ≤ V b := by
  by_cases hc : V a ≤ V b
  · exact hc
  · have := N_mono (show V b ≤ V a by omega)
    rw [N_V h, N_V (by omega)] at this
    have : a = b := by omega
    rw [this]; exact Nat.le_refl _
theorem V_inj {a b : Nat} (ha : a ≤ 2139095040) (hb : b ≤ 2139095040) (h : V a = V b) : a = b := by rw [← N_V ha, h, N_V hb]
theorem N_le {X r : Nat} (hr : r ≤ 2139095040) (h : X ≤ V r) : N X ≤ r := by have := N_mono h; rwa [N_V hr] at this
theorem N_ge {X r : Nat} (hr : r ≤ 2139095040) (h : V r ≤ X) : r ≤ N X := by have := N_mono h; rwa [N_V hr] at this
theorem N_inf (X : Nat) : N X ≤ 2139095040 := Nat.min_le_right ..
theorem V_zero : V 0 = 0 := by decide +kernel
end Go.Proofs.Ythadfopkacbnlaa.fl
