/-
  Reals: from chapter 3's Rn, what is needed here.
-/
import Derived.Test.YtndhlgbpfkidbaaRBa
import Ieee.Arith
namespace Go.R
open Ieee
set_option linter.unusedVariables false
set_option linter.unusedSimpArgs false

/-- A finite rung's whole number and its place. -/
def pm (r : Nat) : Nat := if r < 8388608 then r else r % 8388608 + 8388608
def pe (r : Nat) : Int := if r < 8388608 then -149 else ((r / 8388608 : Nat) : Int) - 150
/-- 'm * 2 ^ e' in units of 2 ^ B. -/
def sc (B : Int) (m : Nat) (e : Int) : Nat := m * 2 ^ (e - B).toNat
def icmp (a b : Nat) : Int := if a < b then -1 else if b < a then 1 else 0

theorem pe_ge (r : Nat) : -149 ≤ pe r := by
  unfold pe; split
  · omega
  · have : 1 ≤ r / 8388608 := by omega
    omega
theorem pm_lt (r : Nat) : pm r < 16777216 := by unfold pm; split <;> omega
theorem pe_le (r : Nat) (h : r < 2139095040) : pe r ≤ 104 := by
  unfold pe; split
  · omega
  · have : r / 8388608 < 255 := by omega
    omega
theorem sc_mul (B : Int) (m k : Nat) (e : Int) (h : B ≤ e) : sc B (m * 2 ^ k) e = sc B m (e + k) := by
  unfold sc
  rw [Nat.mul_assoc, ← Nat.pow_add]
  congr 2
  omega
theorem icmp_lt {a b : Nat} : icmp a b < 0 ↔ a < b := by unfold icmp; split <;> (try split) <;> first | omega | (simp_all; done)
theorem icmp_ge {a b : Nat} : 0 ≤ icmp a b ↔ b ≤ a := by unfold icmp; split <;> (try split) <;> first | omega | (simp_all; done)
theorem icmp_gt {a b : Nat} : 0 < icmp a b ↔ b < a := by unfold icmp; split <;> (try split) <;> first | omega | (simp_all; done)
theorem icmp_eq {a b : Nat} : icmp a b = 0 ↔ a = b := by unfold icmp; split <;> (try split) <;> first | omega | (simp_all; done)

/-- What a rung stands for, in units of 2 ^ B. -/
def W (B : Int) (r : Nat) : Nat := sc B (pm r) (pe r)
theorem W_step (B : Int) (hB : B ≤ -149) (r : Nat) : W B r < W B (r + 1) := by
  unfold W
  by_cases h1 : r + 1 < 8388608
  · have e1 : pm (r + 1) = pm r + 1 := by unfold pm; rw [if_pos h1, if_pos (by omega)]
    have e2 : pe (r + 1) = pe r := by unfold pe; rw [if_pos h1, if_pos (by omega)]
    rw [e1, e2]; unfold sc
    exact Nat.mul_lt_mul_of_pos_right (by omega) (Nat.two_pow_pos _)
  · by_cases h2 : r < 8388608
    · have hr : r = 8388607 := by omega
      subst hr
      have e1 : pm 8388608 = 8388608 := by decide
      have e2 : pe 8388608 = -149 := by decide
      have e3 : pm 8388607 = 8388607 := by decide
      have e4 : pe 8388607 = -149 := by decide
      show sc B (pm 8388607) (pe 8388607) < sc B (pm 8388608) (pe 8388608)
      rw [e1, e2, e3, e4]; unfold sc
      exact Nat.mul_lt_mul_of_pos_right (by omega) (Nat.two_pow_pos _)
    · by_cases h3 : r % 8388608 + 1 < 8388608
      · have e1 : pm (r + 1) = pm r + 1 := by unfold pm; rw [if_neg (by omega), if_neg h2]; omega
        have e2 : pe (r + 1) = pe r := by unfold pe; rw [if_neg (by omega), if_neg h2]; congr 2; omega
        rw [e1, e2]; unfold sc
        exact Nat.mul_lt_mul_of_pos_right (by omega) (Nat.two_pow_pos _)
      · have e1 : pm (r + 1) = 8388608 := by unfold pm; rw [if_neg (by omega)]; omega
        have e2 : pe (r + 1) = pe r + 1 := by unfold pe; rw [if_neg (by omega), if_neg h2]; omega
        have e3 : pm r = 16777215 := by unfold pm; rw [if_neg h2]; omega
        have hp := pe_ge r
        have e4 := sc_mul B 8388608 1 (pe r) (by omega)
        rw [e1, e2, e3, show pe r + 1 = pe r + ((1 : Nat) : Int) from rfl, ← e4]; unfold sc
        exact Nat.mul_lt_mul_of_pos_right (by omega) (Nat.two_pow_pos _)
theorem W_mono (B : Int) (hB : B ≤ -149) {r s : Nat} (h : r ≤ s) : W B r ≤ W B s := by
  induction s with
  | zero => have : r = 0 := by omega
            subst this; exact Nat.le_refl _
  | succ s ih =>
    by_cases e : r = s + 1
    · subst e; exact Nat.le_refl _
    · exact Nat.le_trans (ih (by omega)) (Nat.le_of_lt (W_step B hB s))

/-- The cut to the nearest, even. -/
theorem cut_even (neg : Bool) (n drop : Nat) : Toward.even.cut neg n drop = n / 2 ^ drop + (decide (2 ^ drop < 2 * (n % 2 ^ drop)) || (2 ^ drop == 2 * (n % 2 ^ drop) && n / 2 ^ drop % 2 == 1)).toNat := by
  unfold Toward.cut
  simp only [Nat.one_shiftLeft]
  by_cases h : drop ≤ n.log2 + 2
  · rw [Nat.min_eq_left h]
  · rw [Nat.min_eq_right (by omega)]
    have h1 : n < 2 ^ (n.log2 + 1) := Nat.lt_log2_self
    have h2 : (2 : Nat) ^ (n.log2 + 1 + 1) ≤ 2 ^ drop := Nat.pow_le_pow_right (by omega) (by omega)
    have h3 : (2 : Nat) ^ (n.log2 + 2) = 2 * 2 ^ (n.log2 + 1) := by rw [Nat.pow_succ, Nat.mul_comm]
    have h4 : n < 2 ^ drop := by rw [Nat.pow_succ] at h2; omega
    have h5 : n < 2 ^ (n.log2 + 2) := by omega
    have h6 : 2 * n < 2 ^ drop := by rw [Nat.pow_succ] at h2; omega
    have h7 : 2 * n < 2 ^ (n.log2 + 2) := by omega
    rw [Nat.div_eq_of_lt h4, Nat.div_eq_of_lt h5, Nat.mod_eq_of_lt h4, Nat.mod_eq_of_lt h5]
    have b1 : decide (2 ^ drop < 2 * n) = false := by simp; omega
    have b2 : decide (2 ^ (n.log2 + 2) < 2 * n) = false := by simp; omega
    simp [b1, b2]
/-- One up from the middle on, of two the even one. -/
def more (X U : Nat) : Bool := decide (U < 2 * (X % U)) || (U == 2 * (X % U) && X / U % 2 == 1)
theorem cut_units (neg : Bool) (mag : Nat) (place last B : Int) (h1 : B ≤ place) (h2 : B ≤ last) :
    Toward.even.cut neg (mag <<< (place - last).toNat) (last - place).toNat = sc B mag place / 2 ^ (last - B).toNat + (more (sc B mag place) (2 ^ (last - B).toNat)).toNat := by
  rw [cut_even, Nat.shiftLeft_eq]
  unfold more sc
  by_cases h : last ≤ place
  · have e1 : (last - place).toNat = 0 := by omega
    have e2 : mag * 2 ^ (place - B).toNat = mag * 2 ^ (place - last).toNat * 2 ^ (last - B).toNat := by
      rw [Nat.mul_assoc, ← Nat.pow_add]; congr 2; omega
    rw [e1, e2, Nat.mul_div_cancel _ (Nat.two_pow_pos _), Nat.mul_mod_left]
    have := Nat.two_pow_pos (last - B).toNat
    have b1 : (2 ^ (last - B).toNat == 2 * 0) = false := by simp
    simp [Nat.mod_one, b1]
  · have e1 : (place - last).toNat = 0 := by omega
    have e2 : (last - B).toNat = (last - place).toNat + (place - B).toNat := by omega
    have hp := Nat.two_pow_pos (place - B).toNat
    rw [e1, e2, Nat.pow_add, Nat.pow_zero, Nat.mul_one, Nat.mul_div_mul_right _ _ hp, Nat.mul_mod_mul_right]
    generalize 2 ^ (last - place).toNat = g
    generalize 2 ^ (place - B).toNat = k at hp
    congr 2
    have t1 : decide (g < 2 * (mag % g)) = decide (g * k < 2 * (mag % g * k)) := by
      rw [← Nat.mul_assoc]; simp only [Nat.mul_lt_mul_right hp]
    have t2 : (g == 2 * (mag % g)) = (g * k == 2 * (mag % g * k)) := by
      rw [← Nat.mul_assoc, Bool.eq_iff_iff]; simp only [beq_iff_eq]
      exact ⟨fun h => by rw [← h], fun h => Nat.eq_of_mul_eq_mul_right hp h⟩
    rw [t1, t2]

theorem single_least : Ieee.single.leastPlace = -149 := by decide
theorem single_binade : Ieee.single.binade = 8388608 := by decide
theorem single_inf : Ieee.single.infRung = 2139095040 := by decide
/-- A rung by its binade and what it has in it. -/
theorem rung_parts (k q : Nat) (h1 : q < 16777216) (h2 : k = 0 ∨ 8388608 ≤ q) : pm (k * 8388608 + q) = q ∧ pe (k * 8388608 + q) = (k : Int) - 149 := by
  unfold pm pe
  by_cases h : k * 8388608 + q < 8388608
  · rw [if_pos h, if_pos h]; omega
  · rw [if_neg h, if_neg h]; omega
theorem rung_next (k q : Nat) (B : Int) (hB : B ≤ -149) (h1 : q < 16777216) (h2 : k = 0 ∨ 8388608 ≤ q) : W B (k * 8388608 + q + 1) = sc B (q + 1) ((k : Int) - 149) := by
  unfold W
  by_cases h : q + 1 < 16777216
  · obtain ⟨e1, e2⟩ := rung_parts k (q + 1) h (by omega)
    rw [Nat.add_assoc, e1, e2]
  · have hq : q = 16777215 := by omega
    obtain ⟨e1, e2⟩ := rung_parts (k + 1) 8388608 (by omega) (by omega)
    have e3 : k * 8388608 + q + 1 = (k + 1) * 8388608 + 8388608 := by omega
    have e4 : q + 1 = 8388608 * 2 ^ 1 := by omega
    have e5 := sc_mul B 8388608 1 ((k : Int) - 149) (by omega)
    rw [e3, e1, e2]
    refine Eq.trans ?_ ((congrArg (fun x => sc B x ((k : Int) - 149)) e4).trans e5).symm
    have e6 : ((k + 1 : Nat) : Int) - 149 = (k : Int) - 149 + ((1 : Nat) : Int) := by omega
    rw [e6]
theorem sc_mid (B : Int) (x k : Nat) (last : Int) (hk : last = (k : Int) - 149) (hB : B ≤ -150) : 2 * sc B (2 * x + 1) ((k : Int) - 149 - 1) = (2 * x + 1) * 2 ^ (last - B).toNat := by
  have e : (last - B).toNat = ((k : Int) - 149 - 1 - B).toNat + 1 := by omega
  unfold sc
  rw [e, Nat.pow_succ]
  generalize 2 ^ ((k : Int) - 149 - 1 - B).toNat = p
  generalize 2 * x + 1 = y
  rw [Nat.mul_comm p 2, Nat.mul_left_comm]
theorem top_mid (B : Int) (hB : B ≤ -150) (low : Nat) (h : low + 1 = 2139095040) : sc B (2 * 16777215 + 1) (104 - 1) < W B (low + 1) := by
  have b1 : pm (low + 1) = 8388608 := by unfold pm; rw [if_neg (by omega)]; omega
  have b2 : pe (low + 1) = 105 := by unfold pe; rw [if_neg (by omega)]; omega
  unfold W
  rw [b1, b2]
  have m3 := sc_mul B 8388608 2 103 (by omega)
  have e : (103 : Int) + ((2 : Nat) : Int) = 105 := by omega
  rw [e] at m3
  rw [← m3]
  have e2 : (104 : Int) - 1 = 103 := by omega
  rw [e2]
  unfold sc
  exact Nat.mul_lt_mul_of_pos_right (by omega) (Nat.two_pow_pos _)
theorem more_iff (X M U Y q rem : Nat) (mo : Bool) (hX : X = Y + rem) (hm : 2 * M = 2 * Y + U) (hmore : mo = (decide (U < 2 * rem) || (U == 2 * rem && q % 2 == 1))) :
    mo.toNat = if 0 < icmp X M ∨ icmp X M = 0 ∧ q % 2 = 1 then 1 else 0 := by
  by_cases hc : 0 < icmp X M ∨ icmp X M = 0 ∧ q % 2 = 1
  · rw [if_pos hc]
    have hmo : mo = true := by
      rw [hmore]
      rcases hc with hc | ⟨hc, ho⟩
      · rw [icmp_gt] at hc
        have : decide (U < 2 * rem) = true := decide_eq_true (by omega)
        rw [this]; rfl
      · rw [icmp_eq] at hc
        have : (U == 2 * rem) = true := beq_iff_eq.2 (by omega)
        rw [this, ho]; simp
    rw [hmo]; rfl
  · rw [if_neg hc]
    have hmo : mo = false := by
      rw [hmore]
      have c1 : ¬ M < X := fun h => hc (.inl (icmp_gt.2 h))
      have : decide (U < 2 * rem) = false := decide_eq_false (by omega)
      rw [this, Bool.false_or]
      by_cases ho : q % 2 = 1
      · have c2 : ¬ X = M := fun h => hc (.inr ⟨icmp_eq.2 h, ho⟩)
        have : (U == 2 * rem) = false := by rw [beq_eq_false_iff_ne]; omega
        rw [this, Bool.false_and]
      · have : (q % 2 == 1) = false := by rw [beq_eq_false_iff_ne]; omega
        rw [this, Bool.and_false]
    rw [hmo]; rfl
theorem odd_rung (k q : Nat) : (k * 8388608 + q) % 2 = q % 2 := by omega
/-- What the search finds, a number that is compared so rounds to. -/
theorem nearest_eq (mag : Nat) (place B : Int) (h0 : 0 < mag) (hB : B ≤ place) (hB2 : B ≤ -150) (cmp : Nat → Int → Int)
    (H : ∀ m e, m < 33554432 → -150 ≤ e → e ≤ 104 → cmp m e = icmp (sc B mag place) (sc B m e)) (low : Nat) (hlow : low < 2139095040) (hl1 : 0 ≤ cmp (pm low) (pe low))
    (hl2 : low + 1 = 2139095040 ∨ low + 1 < 2139095040 ∧ cmp (pm (low + 1)) (pe (low + 1)) < 0) :
    Ieee.single.nearest false mag place = if 0 < cmp (2 * pm low + 1) (pe low - 1) ∨ cmp (2 * pm low + 1) (pe low - 1) = 0 ∧ low % 2 = 1 then low + 1 else low := by
  have hp1 := pm_lt low
  have hp2 := pe_ge low
  have hp3 := pe_le low hlow
  rw [H _ _ (by omega) (by omega) hp3, icmp_ge] at hl1
  rw [H _ _ (by omega) (by omega) (by omega)]
  replace hl2 : low + 1 = 2139095040 ∨ low + 1 < 2139095040 ∧ sc B mag place < W B (low + 1) := by
    rcases hl2 with h | ⟨h, h2⟩
    · exact .inl h
    · rw [H _ _ (by have := pm_lt (low + 1); omega) (by have := pe_ge (low + 1); omega) (pe_le _ h), icmp_lt] at h2
      exact .inr ⟨h, h2⟩
  clear H cmp
  have hl1 : W B low ≤ sc B mag place := hl1
  unfold Format.nearest
  rw [if_neg (by omega), single_least, single_binade, single_inf]
  generalize hlast : max (place + (mag.log2 : Int) - ((Ieee.single.fractionBits : Nat) : Int)) (-149) = last
  have hf : Ieee.single.fractionBits = 23 := rfl
  rw [hf] at hlast
  have hl : -149 ≤ last := by omega
  dsimp only
  rw [cut_units false mag place last B hB (by omega)]
  have hw : ∀ x, Ieee.single.word false x = x := fun x => rfl
  rw [hw]
  obtain ⟨k, hk⟩ : ∃ k : Nat, last = (k : Int) - 149 := ⟨(last + 149).toNat, by omega⟩
  have hX1 : sc B mag place < 16777216 * 2 ^ (last - B).toNat := by
    have h1 : mag < 2 ^ (mag.log2 + 1) := Nat.lt_log2_self
    have h2 : sc B mag place < 2 ^ (mag.log2 + 1) * 2 ^ (place - B).toNat := Nat.mul_lt_mul_of_pos_right h1 (Nat.two_pow_pos _)
    have h3 : (2 : Nat) ^ (mag.log2 + 1) * 2 ^ (place - B).toNat ≤ 2 ^ 24 * 2 ^ (last - B).toNat := by
      rw [← Nat.pow_add, ← Nat.pow_add]; exact Nat.pow_le_pow_right (by omega) (by omega)
    exact Nat.lt_of_lt_of_le h2 h3
  have hX2 : k = 0 ∨ 8388608 * 2 ^ (last - B).toNat ≤ sc B mag place := by
    by_cases hk0 : k = 0
    · exact .inl hk0
    · right
      have h1 : 2 ^ mag.log2 ≤ mag := Nat.log2_self_le (by omega)
      have h2 : 2 ^ mag.log2 * 2 ^ (place - B).toNat ≤ sc B mag place := Nat.mul_le_mul_right _ h1
      have h3 : (2 : Nat) ^ 23 * 2 ^ (last - B).toNat ≤ 2 ^ mag.log2 * 2 ^ (place - B).toNat := by
        rw [← Nat.pow_add, ← Nat.pow_add]; exact Nat.pow_le_pow_right (by omega) (by omega)
      exact Nat.le_trans h3 h2
  have hU := Nat.two_pow_pos (last - B).toNat
  have eq1 : sc B mag place / 2 ^ (last - B).toNat < 16777216 := by rw [Nat.div_lt_iff_lt_mul hU]; exact hX1
  have eq2 : k = 0 ∨ 8388608 ≤ sc B mag place / 2 ^ (last - B).toNat := by
    rcases hX2 with h | h
    · exact .inl h
    · right; rw [Nat.le_div_iff_mul_le hU]; exact h
  have hdm := Nat.div_add_mod (sc B mag place) (2 ^ (last - B).toNat)
  have hml := Nat.mod_lt (sc B mag place) hU
  have hkt : (last - -149).toNat = k := by omega
  rw [hkt]
  obtain ⟨p1, p2⟩ := rung_parts k _ eq1 eq2
  have pn := rung_next k _ B (by omega) eq1 eq2
  have pw : W B (k * 8388608 + sc B mag place / 2 ^ (last - B).toNat) = sc B (sc B mag place / 2 ^ (last - B).toNat) ((k : Int) - 149) := by unfold W; rw [p1, p2]
  have hsu : ∀ x, sc B x ((k : Int) - 149) = x * 2 ^ (last - B).toNat := fun x => by unfold sc; rw [hk]
  rw [hsu] at pn pw
  have hmore : more (sc B mag place) (2 ^ (last - B).toNat) = (decide (2 ^ (last - B).toNat < 2 * (sc B mag place % 2 ^ (last - B).toNat)) || (2 ^ (last - B).toNat == 2 * (sc B mag place % 2 ^ (last - B).toNat) && sc B mag place / 2 ^ (last - B).toNat % 2 == 1)) := rfl
  have hmid := fun x => sc_mid B x k last hk hB2
  generalize sc B mag place / 2 ^ (last - B).toNat = q at *
  generalize sc B mag place % 2 ^ (last - B).toNat = rem at *
  generalize more (sc B mag place) (2 ^ (last - B).toNat) = mo at *
  generalize sc B mag place = X at *
  generalize 2 ^ (last - B).toNat = U at *
  have hqU : X = q * U + rem := by rw [← hdm, Nat.mul_comm]
  have hYX : q * U ≤ X := by rw [hqU]; exact Nat.le_add_right _ _
  have hXY : X < (q + 1) * U := by rw [hqU, Nat.succ_mul]; exact Nat.add_lt_add_left hml _
  by_cases hbig : 2139095040 ≤ k * 8388608 + q
  · have hle : 2139095040 ≤ k * 8388608 + (q + mo.toNat) := Nat.le_trans hbig (by rw [← Nat.add_assoc]; exact Nat.le_add_right _ _)
    rw [Nat.min_eq_right hle]
    have hlo : low + 1 = 2139095040 := by
      rcases hl2 with h | ⟨h, h2⟩
      · exact h
      · have := W_mono B (by omega) (Nat.le_trans (Nat.le_of_lt h) hbig)
        rw [pw] at this
        exact absurd h2 (Nat.not_lt.2 (Nat.le_trans this hYX))
    have a1 : pm low = 16777215 := by unfold pm; rw [if_neg (by omega)]; omega
    have a2 : pe low = 104 := by unfold pe; rw [if_neg (by omega)]; omega
    rw [a1, a2]
    have m1 := W_mono B (by omega) (show low + 1 ≤ k * 8388608 + q by rw [hlo]; exact hbig)
    rw [pw] at m1
    have n1 := top_mid B hB2 low hlo
    have hgt : sc B (2 * 16777215 + 1) (104 - 1) < X := Nat.lt_of_lt_of_le n1 (Nat.le_trans m1 hYX)
    rw [if_pos (.inl (icmp_gt.2 hgt)), hlo]
  · have hlo : low = k * 8388608 + q := by
      rcases Nat.lt_trichotomy low (k * 8388608 + q) with h | h | h
      · rcases hl2 with h3 | ⟨h3, h4⟩
        · exact absurd (h3 ▸ h : 2139095040 ≤ k * 8388608 + q) hbig
        · have := W_mono B (by omega) (show low + 1 ≤ k * 8388608 + q from h)
          rw [pw] at this
          exact absurd h4 (Nat.not_lt.2 (Nat.le_trans this hYX))
      · exact h
      · have := W_mono B (by omega) (show k * 8388608 + q + 1 ≤ low from h)
        rw [pn] at this
        exact absurd (Nat.le_trans this hl1) (Nat.not_le.2 hXY)
    subst hlo
    rw [p1, p2]
    have hm2 : (2 * q + 1) * U = 2 * (q * U) + U := by rw [Nat.add_mul, Nat.one_mul, Nat.mul_assoc]
    have hmi := more_iff X _ U (q * U) q rem mo hqU ((hmid q).trans hm2) hmore
    have hodd := odd_rung k q
    rw [hodd]
    have hlt : k * 8388608 + q < 2139095040 := Nat.lt_of_not_le hbig
    by_cases hc : 0 < icmp X (sc B (2 * q + 1) ((k : Int) - 149 - 1)) ∨ icmp X (sc B (2 * q + 1) ((k : Int) - 149 - 1)) = 0 ∧ q % 2 = 1
    · rw [if_pos hc]
      rw [if_pos hc] at hmi
      rw [hmi, ← Nat.add_assoc]
      exact Nat.min_eq_left hlt
    · rw [if_neg hc]
      rw [if_neg hc] at hmi
      rw [hmi, Nat.add_zero]
      exact Nat.min_eq_left (Nat.le_of_lt hlt)
end Go.R
