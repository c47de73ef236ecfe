/-
  Reals: from chapter 3's Rd, what is needed here.
-/
import Derived.Test.YthadfopkacbnlaaRRq
namespace Go.R
open Ieee
set_option linter.unusedVariables false
set_option linter.unusedSimpArgs false

theorem p52 : (2 : Nat) ^ 52 = 4503599627370496 := by decide
theorem p53 : (2 : Nat) ^ 53 = 9007199254740992 := by decide
theorem p56 : (2 : Nat) ^ 56 = 72057594037927936 := by decide
theorem p28 : 268435456 * 268435456 = 72057594037927936 := by decide
theorem help_up (K KK Y : Nat) (h : KK < Y) (K2 : K < 33554432) : KK * 72057594037927936 + K * 536870912 + 1 ≤ Y * 72057594037927936 := by omega
theorem help_down (K KK Y Z : Nat) (e2 : Z + K * 536870912 = KK * 72057594037927936 + 1) (h : Y < KK) (K2 : K < 33554432) : Y * 72057594037927936 ≤ Z := by omega
theorem help_down2 (K KK m Z : Nat) (e2 : Z + K * 536870912 = KK * 72057594037927936 + 1) (hm : m < 16777216) (h : 281474976710656 ≤ KK) (K2 : K < 33554432) : m * 72057594037927936 ≤ Z := by omega
theorem sq_gen (K a : Nat) (h : 0 < K * a) : (K * a - 1) * (K * a - 1) + 2 * (K * a) = K * K * (a * a) + 1 := by
  obtain ⟨L, hL⟩ : ∃ L, K * a = L + 1 := ⟨K * a - 1, by omega⟩
  rw [← Nat.mul_mul_mul_comm, hL, Nat.add_sub_cancel]
  have h5 : (L + 1) * (L + 1) = L * L + 2 * L + 1 := by rw [Nat.add_mul, Nat.mul_add]; omega
  omega
theorem sq_gen2 (K a : Nat) : (K * a + 1) * (K * a + 1) = K * K * (a * a) + 2 * (K * a) + 1 := by
  rw [Nat.add_mul, Nat.mul_add, Nat.mul_mul_mul_comm]; omega
theorem sq_down (K : Nat) (h : 0 < K) : (K * 268435456 - 1) * (K * 268435456 - 1) + K * 536870912 = K * K * 72057594037927936 + 1 := by
  have h1 := sq_gen K 268435456 (by omega)
  rw [p28] at h1
  have h2 : 2 * (K * 268435456) = K * 536870912 := by omega
  rw [h2] at h1
  exact h1
theorem sq_up (K : Nat) : (K * 268435456 + 1) * (K * 268435456 + 1) = K * K * 72057594037927936 + K * 536870912 + 1 := by
  have h1 := sq_gen2 K 268435456
  rw [p28] at h1
  have h2 : 2 * (K * 268435456) = K * 536870912 := by omega
  rw [h2] at h1
  exact h1
theorem sq_ge (K : Nat) (h : 16777216 ≤ K) : 281474976710656 ≤ K * K := by
  have h1 := Nat.mul_le_mul h h
  have h2 : 16777216 * 16777216 = 281474976710656 := by decide
  rw [h2] at h1
  exact h1
theorem double_least : Ieee.double.leastPlace = -1074 := by decide
theorem double_binade : Ieee.double.binade = 4503599627370496 := by decide
theorem double_inf : Ieee.double.infRung = 9218868437227405312 := by decide
theorem double_sign : Ieee.double.signWeight = 9223372036854775808 := by decide
theorem double_read (k q : Nat) (h1 : 4503599627370496 ≤ q) (h2 : q < 9007199254740992) (h3 : k < 2046) : Ieee.double.read (k * 4503599627370496 + q) = .number false q ((k : Int) - 1074) := by
  have e1 : (k * 4503599627370496 + q) / 9223372036854775808 = 0 := by omega
  have e2 : (k * 4503599627370496 + q) % 9223372036854775808 = k * 4503599627370496 + q := by omega
  have e3 : (k * 4503599627370496 + q) % 4503599627370496 = q - 4503599627370496 := by omega
  have e4 : (k * 4503599627370496 + q) / 4503599627370496 = k + 1 := by omega
  unfold Format.read
  rw [double_least, double_binade, double_inf, double_sign]
  dsimp only
  rw [e1, e2, if_neg (by omega), if_pos (by omega), e3, e4]
  have e5 : 4503599627370496 + (q - 4503599627370496) = q := by omega
  have e6 : (-1074 : Int) + ((k + 1 - 1 : Nat) : Int) = (k : Int) - 1074 := by omega
  rw [e5, e6]
  rfl
/-- What a number is written as with 53 digits, no number of 53 digits in between. -/
theorem dbl (mag : Nat) (place : Int) (h0 : 0 < mag) (hlo : -1022 ≤ place + mag.log2) (hhi : place + mag.log2 < 900) :
    ∃ m' p', Ieee.double.read (Ieee.double.nearest false mag place) = .number false m' p' ∧ 0 < m' ∧ m' < 9007199254740992 ∧ -1074 ≤ p' ∧ p' ≤ 900 ∧
      ∀ (k : Nat) (f B : Int), k < 9007199254740992 → B ≤ place → B ≤ f → B ≤ p' → -1074 ≤ f → B ≤ place + mag.log2 - 52 →
        (sc B k f ≤ sc B mag place → sc B k f ≤ sc B m' p') ∧ (sc B mag place ≤ sc B k f → sc B m' p' ≤ sc B k f) := by
  have hf : Ieee.double.fractionBits = 52 := rfl
  obtain ⟨last, hlast⟩ : ∃ l : Int, l = place + mag.log2 - 52 := ⟨_, rfl⟩
  obtain ⟨c, hc⟩ : ∃ c : Nat, last = (c : Int) - 1074 := ⟨(last + 1074).toNat, by omega⟩
  -- what is kept
  have hkept : ∃ kept, Toward.even.cut false (mag <<< (place - last).toNat) (last - place).toNat = kept ∧ 4503599627370496 ≤ kept ∧ kept ≤ 9007199254740992 ∧
      ∀ (k : Nat) (f B : Int), k < 9007199254740992 → B ≤ place → B ≤ f → B ≤ last →
        (sc B k f ≤ sc B mag place → sc B k f ≤ sc B kept last) ∧ (sc B mag place ≤ sc B k f → sc B kept last ≤ sc B k f) := by
    refine ⟨_, rfl, ?_⟩
    -- at one base
    have base : ∀ B : Int, B ≤ place → B ≤ last → ∃ q, 4503599627370496 ≤ q ∧ q < 9007199254740992 ∧ q * 2 ^ (last - B).toNat ≤ sc B mag place ∧ sc B mag place < (q + 1) * 2 ^ (last - B).toNat ∧
        ∃ mo : Bool, Toward.even.cut false (mag <<< (place - last).toNat) (last - place).toNat = q + mo.toNat ∧ (sc B mag place = q * 2 ^ (last - B).toNat → mo = false) := by
      intro B hB1 hB2
      rw [cut_units false mag place last B hB1 hB2]
      have hU := Nat.two_pow_pos (last - B).toNat
      have hX1 : sc B mag place < 9007199254740992 * 2 ^ (last - B).toNat := by
        have h1 : mag < 2 ^ (mag.log2 + 1) := Nat.lt_log2_self
        have h2 : sc B mag place < 2 ^ (mag.log2 + 1) * 2 ^ (place - B).toNat := Nat.mul_lt_mul_of_pos_right h1 (Nat.two_pow_pos _)
        have h3 : (2 : Nat) ^ (mag.log2 + 1) * 2 ^ (place - B).toNat = 2 ^ 53 * 2 ^ (last - B).toNat := by
          rw [← Nat.pow_add, ← Nat.pow_add]; congr 1; omega
        rw [h3, p53] at h2
        exact h2
      have hX2 : 4503599627370496 * 2 ^ (last - B).toNat ≤ sc B mag place := by
        have h1 : 2 ^ mag.log2 ≤ mag := Nat.log2_self_le (by omega)
        have h2 : 2 ^ mag.log2 * 2 ^ (place - B).toNat ≤ sc B mag place := Nat.mul_le_mul_right _ h1
        have h3 : (2 : Nat) ^ 52 * 2 ^ (last - B).toNat = 2 ^ mag.log2 * 2 ^ (place - B).toNat := by
          rw [← Nat.pow_add, ← Nat.pow_add]; congr 1; omega
        rw [← h3, p52] at h2
        exact h2
      refine ⟨sc B mag place / 2 ^ (last - B).toNat, (Nat.le_div_iff_mul_le hU).2 hX2, (Nat.div_lt_iff_lt_mul hU).2 hX1, Nat.div_mul_le_self _ _, ?_, more (sc B mag place) (2 ^ (last - B).toNat), rfl, ?_⟩
      · exact Nat.lt_mul_of_div_lt (Nat.lt_succ_self _) hU
      · intro h
        have h2 : sc B mag place % 2 ^ (last - B).toNat = 0 := by rw [h]; exact Nat.mul_mod_left _ _
        unfold more
        rw [h2]
        have : (2 ^ (last - B).toNat == 2 * 0) = false := by rw [beq_eq_false_iff_ne]; omega
        rw [this]; simp
    obtain ⟨q, q1, q2, _, _, mo, q5, _⟩ := base (min place last) (by omega) (by omega)
    have hmo : mo.toNat ≤ 1 := by cases mo <;> decide
    refine ⟨by omega, by omega, ?_⟩
    intro k f B hk hB1 hB2 hB3
    obtain ⟨q, q1, q2, q3, q4, mo, q5, q6⟩ := base B hB1 hB3
    have hmo : mo.toNat ≤ 1 := by cases mo <;> decide
    rw [q5]
    have hU := Nat.two_pow_pos (last - B).toNat
    by_cases hfl : last ≤ f
    · have e1 : sc B k f = k * 2 ^ (f - last).toNat * 2 ^ (last - B).toNat := by rw [sc_up B k last f hB3 hfl]; rfl
      rw [e1]
      show (_ → _ ≤ (q + mo.toNat) * 2 ^ (last - B).toNat) ∧ (_ → (q + mo.toNat) * 2 ^ (last - B).toNat ≤ _)
      generalize k * 2 ^ (f - last).toNat = y
      constructor
      · intro h
        have h2 : y < q + 1 := Nat.lt_of_mul_lt_mul_right (Nat.lt_of_le_of_lt h q4)
        exact Nat.mul_le_mul_right _ (by omega)
      · intro h
        have h2 : q ≤ y := Nat.le_of_mul_le_mul_right (Nat.le_trans q3 h) hU
        refine Nat.mul_le_mul_right _ ?_
        by_cases e : y = q
        · rw [q6 (Nat.le_antisymm (by rw [← e]; exact h) q3)]
          show q + 0 ≤ y
          omega
        · omega
    · have e1 : sc B k f < q * 2 ^ (last - B).toNat := by
        have h1 : sc B k f < 9007199254740992 * 2 ^ (f - B).toNat := Nat.mul_lt_mul_of_pos_right hk (Nat.two_pow_pos _)
        have h2 : 9007199254740992 * 2 ^ (f - B).toNat ≤ 4503599627370496 * 2 ^ (last - B).toNat := by
          have h3 : (2 : Nat) ^ 53 * 2 ^ (f - B).toNat ≤ 2 ^ 52 * 2 ^ (last - B).toNat := by
            rw [← Nat.pow_add, ← Nat.pow_add]; exact Nat.pow_le_pow_right (by omega) (by omega)
          rw [p52, p53] at h3
          exact h3
        exact Nat.lt_of_lt_of_le h1 (Nat.le_trans h2 (Nat.mul_le_mul_right _ q1))
      constructor
      · intro _
        refine Nat.le_trans (Nat.le_of_lt e1) ?_
        exact Nat.mul_le_mul_right _ (Nat.le_add_right _ _)
      · intro h
        exact absurd (Nat.lt_of_le_of_lt (Nat.le_trans q3 h) e1) (Nat.lt_irrefl _)
  obtain ⟨kept, k1, k2, k3, k4⟩ := hkept
  have hnear : Ieee.double.nearest false mag place = c * 4503599627370496 + kept := by
    unfold Format.nearest
    rw [if_neg (by omega), double_least, double_binade, double_inf, hf]
    have hmx : max (place + (mag.log2 : Int) - ((52 : Nat) : Int)) (-1074) = last := by omega
    rw [hmx]
    dsimp only
    rw [k1]
    have hct : (last - -1074).toNat = c := by omega
    have hle : c * 4503599627370496 + kept ≤ 9218868437227405312 := by omega
    have hw : ∀ x, Ieee.double.word false x = x := fun x => rfl
    rw [hw, hct, Nat.min_eq_left hle]
  rw [hnear]
  by_cases hk : kept < 9007199254740992
  · refine ⟨kept, last, ?_, by omega, hk, by omega, by omega, fun k f B h1 h2 h3 h4 h5 h6 => k4 k f B h1 h2 h3 h4⟩
    rw [hc]
    exact double_read c kept k2 hk (by omega)
  · refine ⟨4503599627370496, last + 1, ?_, by omega, by omega, by omega, by omega, fun k f B h1 h2 h3 h4 h5 h6 => ?_⟩
    · have h1 := double_read (c + 1) 4503599627370496 (by omega) (by omega) (by omega)
      have h2 : c * 4503599627370496 + kept = (c + 1) * 4503599627370496 + 4503599627370496 := by omega
      have h3 : ((c + 1 : Nat) : Int) - 1074 = last + 1 := by omega
      rw [h3] at h1
      rw [h2]
      exact h1
    · have e : sc B 4503599627370496 (last + 1) = sc B kept last := by
        have := sc_mul B 4503599627370496 1 last (by omega)
        have h2 : 4503599627370496 * 2 ^ 1 = kept := by omega
        rw [h2] at this
        exact this.symm
      rw [e]
      exact k4 k f B h1 h2 h3 (by omega)
/-- A number of 53 digits between a short one and a root that is above it (below it). -/
theorem gap_up (k : Nat) (e : Int) (m : Nat) (i : Int) (hk : k < 33554432) (he : -150 ≤ e) (hm0 : 0 < m) (hm : m < 16777216) (hi : -149 ≤ i) (C : Int) (hC1 : C ≤ i) (hC2 : C ≤ 2 * e) (h : sc C (k * k) (2 * e) < sc C m i) :
    ∃ (k' : Nat) (f' : Int), k' < 9007199254740992 ∧ -300 ≤ f' ∧ (∀ B : Int, B ≤ e → B ≤ f' → sc B k e < sc B k' f') ∧ ∀ B : Int, B ≤ 2 * f' → B ≤ i → sc B (k' * k') (2 * f') ≤ sc B m i := by
  by_cases h0 : k = 0
  · subst h0
    refine ⟨1, -75, by omega, by omega, fun B h1 h2 => ?_, fun B h1 h2 => ?_⟩
    · unfold sc
      rw [Nat.zero_mul, Nat.one_mul]
      exact Nat.two_pow_pos _
    · unfold sc
      have h3 : (2 : Nat) ^ (2 * (-75 : Int) - B).toNat ≤ 2 ^ (i - B).toNat := Nat.pow_le_pow_right (by omega) (by omega)
      have h4 : 1 * 2 ^ (i - B).toNat ≤ m * 2 ^ (i - B).toNat := Nat.mul_le_mul_right _ hm0
      omega
  · have a1 : 2 ^ k.log2 ≤ k := Nat.log2_self_le h0
    have a2 : k < 2 ^ (k.log2 + 1) := Nat.lt_log2_self
    have a3 : k.log2 < 25 := (Nat.log2_lt h0).2 hk
    obtain ⟨j, hj⟩ : ∃ j, j = 24 - k.log2 := ⟨_, rfl⟩
    have K1 : 16777216 ≤ k * 2 ^ j := by
      have : (2 : Nat) ^ k.log2 * 2 ^ j = 16777216 := by rw [← Nat.pow_add, show k.log2 + j = 24 by omega]
      have h2 := Nat.mul_le_mul_right (2 ^ j) a1
      omega
    have K2 : k * 2 ^ j < 33554432 := by
      have : (2 : Nat) ^ (k.log2 + 1) * 2 ^ j = 33554432 := by rw [← Nat.pow_add, show k.log2 + 1 + j = 25 by omega]
      have h2 := Nat.mul_lt_mul_of_pos_right a2 (Nat.two_pow_pos j)
      omega
    have K3 : ∀ B : Int, B ≤ e - j → sc B k e = sc B (k * 2 ^ j) (e - j) := fun B hB => by
      rw [sc_mul B k j (e - j) hB]; congr 1; omega
    have K4 : ∀ B : Int, B ≤ 2 * (e - j) → sc B (k * k) (2 * e) = sc B (k * 2 ^ j * (k * 2 ^ j)) (2 * (e - j)) := fun B hB => by
      rw [Nat.mul_mul_mul_comm, ← Nat.pow_add, sc_mul B (k * k) (j + j) _ hB]; congr 1; omega
    obtain ⟨f, hf⟩ : ∃ f : Int, f = e - j := ⟨_, rfl⟩
    rw [← hf] at K3 K4
    generalize k * 2 ^ j = K at *
    -- at the base 2 f, m 2^i is above K^2
    have hKK : 281474976710656 ≤ K * K := sq_ge K K1
    have hlow : ∀ A : Int, A ≤ C → A ≤ 2 * f → sc A (K * K) (2 * f) < sc A m i := fun A hA1 hA2 => by
      rw [← K4 A hA2, sc_low C A _ _ hA1 hC2, sc_low C A _ _ hA1 hC1]
      exact Nat.mul_lt_mul_of_pos_right h (Nat.two_pow_pos _)
    have hif : 2 * f ≤ i := by
      apply Int.le_of_not_gt
      intro hlt
      have := hlow (min (min C (2 * f)) i) (by omega) (by omega)
      rw [sc_up (min (min C (2 * f)) i) (K * K) i (2 * f) (by omega) (by omega)] at this
      have h2 : K * K * 2 ^ (2 * f - i).toNat < m := by
        unfold sc at this
        exact Nat.lt_of_mul_lt_mul_right this
      have h3 : K * K * 1 ≤ K * K * 2 ^ (2 * f - i).toNat := Nat.mul_le_mul_left _ (Nat.two_pow_pos _)
      omega
    have hM : K * K < m * 2 ^ (i - 2 * f).toNat := by
      have := hlow (min C (2 * f)) (by omega) (by omega)
      rw [sc_up (min C (2 * f)) m (2 * f) i (by omega) hif] at this
      unfold sc at this
      exact Nat.lt_of_mul_lt_mul_right this
    refine ⟨K * 268435456 + 1, f - 28, by omega, by omega, fun B h1 h2 => ?_, fun B h1 h2 => ?_⟩
    · rw [K3 B (by omega), sc_up B K (f - 28) f h2 (by omega), show (f - (f - 28)).toNat = 28 by omega]
      unfold sc
      refine Nat.mul_lt_mul_of_pos_right ?_ (Nat.two_pow_pos _)
      show K * 268435456 < K * 268435456 + 1
      omega
    · have e1 : sc B m i = sc B (m * 2 ^ (i - 2 * f).toNat * 72057594037927936) (2 * (f - 28)) := by
        rw [sc_up B m (2 * (f - 28)) i h1 (by omega)]
        congr 1
        rw [show (i - 2 * (f - 28)).toNat = (i - 2 * f).toNat + 56 by omega, Nat.pow_add, ← Nat.mul_assoc]
      rw [e1]
      unfold sc
      refine Nat.mul_le_mul_right _ ?_
      rw [sq_up]
      exact help_up K (K * K) _ hM K2
theorem gap_down (k : Nat) (e : Int) (m : Nat) (i : Int) (hk : k < 33554432) (he : -150 ≤ e) (hm0 : 0 < m) (hm : m < 16777216) (hi : -149 ≤ i) (C : Int) (hC1 : C ≤ i) (hC2 : C ≤ 2 * e) (h : sc C m i < sc C (k * k) (2 * e)) :
    ∃ (k' : Nat) (f' : Int), k' < 9007199254740992 ∧ -300 ≤ f' ∧ (∀ B : Int, B ≤ e → B ≤ f' → sc B k' f' < sc B k e) ∧ ∀ B : Int, B ≤ 2 * f' → B ≤ i → sc B m i ≤ sc B (k' * k') (2 * f') := by
  have h0 : k ≠ 0 := by
    intro h0; subst h0
    unfold sc at h
    simp at h
  have a1 : 2 ^ k.log2 ≤ k := Nat.log2_self_le h0
  have a2 : k < 2 ^ (k.log2 + 1) := Nat.lt_log2_self
  have a3 : k.log2 < 25 := (Nat.log2_lt h0).2 hk
  obtain ⟨j, hj⟩ : ∃ j, j = 24 - k.log2 := ⟨_, rfl⟩
  have K1 : 16777216 ≤ k * 2 ^ j := by
    have : (2 : Nat) ^ k.log2 * 2 ^ j = 16777216 := by rw [← Nat.pow_add, show k.log2 + j = 24 by omega]
    have h2 := Nat.mul_le_mul_right (2 ^ j) a1
    omega
  have K2 : k * 2 ^ j < 33554432 := by
    have : (2 : Nat) ^ (k.log2 + 1) * 2 ^ j = 33554432 := by rw [← Nat.pow_add, show k.log2 + 1 + j = 25 by omega]
    have h2 := Nat.mul_lt_mul_of_pos_right a2 (Nat.two_pow_pos j)
    omega
  have K3 : ∀ B : Int, B ≤ e - j → sc B k e = sc B (k * 2 ^ j) (e - j) := fun B hB => by
    rw [sc_mul B k j (e - j) hB]; congr 1; omega
  have K4 : ∀ B : Int, B ≤ 2 * (e - j) → sc B (k * k) (2 * e) = sc B (k * 2 ^ j * (k * 2 ^ j)) (2 * (e - j)) := fun B hB => by
    rw [Nat.mul_mul_mul_comm, ← Nat.pow_add, sc_mul B (k * k) (j + j) _ hB]; congr 1; omega
  obtain ⟨f, hf⟩ : ∃ f : Int, f = e - j := ⟨_, rfl⟩
  rw [← hf] at K3 K4
  generalize k * 2 ^ j = K at *
  have hKK : 281474976710656 ≤ K * K := sq_ge K K1
  have hlow : ∀ A : Int, A ≤ C → A ≤ 2 * f → sc A m i < sc A (K * K) (2 * f) := fun A hA1 hA2 => by
    rw [← K4 A hA2, sc_low C A _ _ hA1 hC2, sc_low C A _ _ hA1 hC1]
    exact Nat.mul_lt_mul_of_pos_right h (Nat.two_pow_pos _)
  have e2 := sq_down K (by omega)
  refine ⟨K * 268435456 - 1, f - 28, by omega, by omega, fun B h1 h2 => ?_, fun B h1 h2 => ?_⟩
  · rw [K3 B (by omega), sc_up B K (f - 28) f h2 (by omega), show (f - (f - 28)).toNat = 28 by omega]
    unfold sc
    refine Nat.mul_lt_mul_of_pos_right ?_ (Nat.two_pow_pos _)
    show K * 268435456 - 1 < K * 268435456
    omega
  · by_cases hif : 2 * f ≤ i
    · have hM : m * 2 ^ (i - 2 * f).toNat < K * K := by
        have := hlow (min C (2 * f)) (by omega) (by omega)
        rw [sc_up (min C (2 * f)) m (2 * f) i (by omega) hif] at this
        unfold sc at this
        exact Nat.lt_of_mul_lt_mul_right this
      have e1 : sc B m i = sc B (m * 2 ^ (i - 2 * f).toNat * 72057594037927936) (2 * (f - 28)) := by
        rw [sc_up B m (2 * (f - 28)) i h1 (by omega)]
        congr 1
        rw [show (i - 2 * (f - 28)).toNat = (i - 2 * f).toNat + 56 by omega, Nat.pow_add, ← Nat.mul_assoc]
      rw [e1]
      unfold sc
      refine Nat.mul_le_mul_right _ ?_
      exact help_down K (K * K) _ _ e2 hM K2
    · have e1 : sc B m i ≤ sc B (m * 72057594037927936) (2 * (f - 28)) := by
        have e3 : sc B (m * 72057594037927936) (2 * (f - 28)) = sc B m (2 * f) := by
          have := sc_mul B m 56 (2 * (f - 28)) h1
          rw [p56] at this; rw [this]; congr 1; omega
        rw [e3]
        unfold sc
        exact Nat.mul_le_mul_left _ (Nat.pow_le_pow_right (by omega) (by omega))
      refine Nat.le_trans e1 ?_
      unfold sc
      refine Nat.mul_le_mul_right _ ?_
      exact help_down2 K (K * K) m _ e2 hm hKK K2
end Go.R
