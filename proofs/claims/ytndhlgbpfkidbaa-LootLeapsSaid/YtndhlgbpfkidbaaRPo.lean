/-
  Reals: from chapter 3's Po, what is needed here.
-/
import Derived.Test.YtndhlgbpfkidbaaRPn
namespace Go.Proofs.Ytndhlgbpfkidbaa.n03
open Go.RowKit Go.K Go.R
set_option linter.unusedVariables false
set_option linter.unusedSimpArgs false
/-- Carried, and not below zero. -/
def PosL (P : List Int) : Prop := P.length = 11 ∧ ∀ j, j < 11 → 0 ≤ P.getD j 0 ∧ P.getD j 0 < 4294967296
theorem limb_at : ∀ (l : List Int), (∀ j, j < l.length → 0 ≤ l.getD j 0 ∧ l.getD j 0 < 4294967296) → ∀ i, i < l.length → (l.getD i 0).toNat = (SL l).toNat / 4294967296 ^ i % 4294967296
  | [], _, i, h => by cases h
  | a :: l, h, 0, _ => by
    have h0 := h 0 (by simp)
    have hs := SL_lt l (fun j hj => h (j + 1) (by simpa using hj))
    have e0 : (a :: l).getD 0 0 = a := rfl
    rw [e0] at h0 ⊢
    show a.toNat = (a + 4294967296 * SL l).toNat / 4294967296 ^ 0 % 4294967296
    rw [Nat.pow_zero, Nat.div_one]
    omega
  | a :: l, h, i + 1, hi => by
    have ih := limb_at l (fun j hj => h (j + 1) (by simpa using hj)) i (by simpa using hi)
    have h0 := h 0 (by simp)
    have hs := SL_lt l (fun j hj => h (j + 1) (by simpa using hj))
    have e0 : (a :: l).getD 0 0 = a := rfl
    rw [e0] at h0
    show (l.getD i 0).toNat = (a + 4294967296 * SL l).toNat / 4294967296 ^ (i + 1) % 4294967296
    rw [ih, Nat.pow_succ, Nat.mul_comm (4294967296 ^ i), ← Nat.div_div_eq_div_mul]
    congr 2
    omega
/-- What a sum stands for, not below zero. -/
def nL (P : List Int) : Nat := (SL P).toNat
theorem nL_limb {P : List Int} (h : PosL P) (i : Nat) (hi : i < 11) : (P.getD i 0).toNat = nL P / 4294967296 ^ i % 4294967296 :=
  limb_at P (fun j hj => h.2 j (by rw [← h.1]; exact hj)) i (by rw [h.1]; exact hi)
theorem div_mod_two (x r : Nat) (hr : r < 32) : x % 4294967296 / 2 ^ r % 2 = x / 2 ^ r % 2 := by
  have e : (4294967296 : Nat) = 2 ^ r * 2 ^ (32 - r) := by rw [← Nat.pow_add, show r + (32 - r) = 32 by omega]
  have h2 : 2 ∣ 2 ^ (32 - r) := by
    refine ⟨2 ^ (31 - r), ?_⟩
    rw [← Nat.pow_succ', show Nat.succ (31 - r) = 32 - r by omega]
  rw [e, Nat.mod_mul_right_div_self, Nat.mod_mod_of_dvd _ h2]
theorem bit_nL {P : List Int} (h : PosL P) (i : Nat) (hi : i < 352) : bitV P i = nL P / 2 ^ i % 2 := by
  unfold bitV
  rw [nL_limb h (i / 32) (by omega), div_mod_two _ _ (Nat.mod_lt _ (by decide)), Nat.div_div_eq_div_mul]
  have e : (4294967296 : Nat) ^ (i / 32) * 2 ^ (i % 32) = 2 ^ i := by
    have e2 : (4294967296 : Nat) = 2 ^ 32 := by decide
    rw [e2, ← Nat.pow_mul, ← Nat.pow_add]; congr 1; omega
  rw [e]
theorem bits_step (v i : Nat) : v / 2 ^ i = 2 * (v / 2 ^ (i + 1)) + v / 2 ^ i % 2 := by
  have : v / 2 ^ (i + 1) = v / 2 ^ i / 2 := by rw [Nat.div_div_eq_div_mul, Nat.pow_succ]
  rw [this]; omega
theorem low_step (v i : Nat) : v % 2 ^ (i + 1) = v % 2 ^ i + 2 ^ i * (v / 2 ^ i % 2) := by
  rw [Nat.pow_succ, Nat.mod_mul]
theorem low_ne (v i : Nat) : decide (v % 2 ^ (i + 1) ≠ 0) = (decide (v % 2 ^ i ≠ 0) || (v / 2 ^ i % 2 == 1)) := by
  rw [low_step]
  have hp := Nat.two_pow_pos i
  rcases (by omega : v / 2 ^ i % 2 = 0 ∨ v / 2 ^ i % 2 = 1) with h | h
  · rw [h, Nat.mul_zero, Nat.add_zero]; simp
  · rw [h, Nat.mul_one]
    have : v % 2 ^ i + 2 ^ i ≠ 0 := by omega
    simp
/-- What is added to the digits kept, by the bits below them. -/
theorem more_bits (v s : Nat) : more v (2 ^ (s + 1)) = ((v / 2 ^ s % 2 == 1) && (decide (v % 2 ^ s ≠ 0) || v / 2 ^ (s + 1) % 2 == 1)) := by
  unfold more
  have hp := Nat.two_pow_pos s
  have hl : v % 2 ^ s < 2 ^ s := Nat.mod_lt _ hp
  rw [low_step]
  generalize v / 2 ^ (s + 1) % 2 = b
  have hu : (2 : Nat) ^ (s + 1) = 2 * 2 ^ s := by rw [Nat.pow_succ, Nat.mul_comm]
  rw [hu]
  generalize v % 2 ^ s = r at *
  generalize (2 : Nat) ^ s = U at *
  rcases (by omega : v / U % 2 = 0 ∨ v / U % 2 = 1) with h | h
  · rw [h, Nat.mul_zero, Nat.add_zero]
    have h1 : decide (2 * U < 2 * r) = false := decide_eq_false (by omega)
    have h2 : (2 * U == 2 * r) = false := by rw [beq_eq_false_iff_ne]; omega
    rw [h1, h2]; rfl
  · rw [h, Nat.mul_one]
    by_cases h3 : r = 0
    · subst h3
      have h1 : decide (2 * U < 2 * (0 + U)) = false := decide_eq_false (by omega)
      have h2 : (2 * U == 2 * (0 + U)) = true := by rw [beq_iff_eq]; omega
      rw [h1, h2]; simp
    · have h1 : decide (2 * U < 2 * (r + U)) = true := decide_eq_true (by omega)
      rw [h1]; simp [h3]
theorem more_zero (v : Nat) : more v (2 ^ 0) = false := by unfold more; rw [Nat.pow_zero, Nat.mod_one]; simp
/-- The place of the highest bit, of the limbs ahead. -/
def topV (v i : Nat) : Int := if v % 4294967296 ^ i = 0 then -1 else ((v % 4294967296 ^ i).log2 : Int)
theorem log2_top (n r d b : Nat) (hr : r < 2 ^ n) (h1 : 2 ^ b ≤ d) (h2 : d < 2 ^ (b + 1)) : (r + 2 ^ n * d).log2 = n + b := by
  have hp := Nat.two_pow_pos n
  have hb := Nat.two_pow_pos b
  have hd : 0 < d := by omega
  have hne : r + 2 ^ n * d ≠ 0 := by
    have := Nat.mul_pos hp hd
    omega
  have k1 : 2 ^ (n + b) ≤ r + 2 ^ n * d := by
    rw [Nat.pow_add]
    exact Nat.le_trans (Nat.mul_le_mul_left _ h1) (Nat.le_add_left _ _)
  have k2 : r + 2 ^ n * d < 2 ^ (n + b + 1) := by
    have e : (2 : Nat) ^ (n + b + 1) = 2 ^ n * 2 ^ (b + 1) := by rw [← Nat.pow_add]; rfl
    rw [e]
    have h3 : 2 ^ n * (d + 1) ≤ 2 ^ n * 2 ^ (b + 1) := Nat.mul_le_mul_left _ h2
    rw [Nat.mul_add, Nat.mul_one] at h3
    omega
  exact (Nat.log2_eq_iff hne).2 ⟨k1, k2⟩
theorem topV_zero (v i d : Nat) (hd : v / 4294967296 ^ i % 4294967296 = d) (h : d = 0) : topV v (i + 1) = topV v i := by
  unfold topV
  rw [Nat.pow_succ, Nat.mod_mul, hd, h, Nat.mul_zero, Nat.add_zero]
theorem topV_new (v i d b : Nat) (hd : v / 4294967296 ^ i % 4294967296 = d) (h1 : 2 ^ b ≤ d) (h2 : d < 2 ^ (b + 1)) : topV v (i + 1) = ((32 * i + b : Nat) : Int) := by
  unfold topV
  rw [Nat.pow_succ, Nat.mod_mul, hd]
  have e : (4294967296 : Nat) ^ i = 2 ^ (32 * i) := by
    have e2 : (4294967296 : Nat) = 2 ^ 32 := by decide
    rw [e2, ← Nat.pow_mul]
  rw [e]
  have hr : v % 2 ^ (32 * i) < 2 ^ (32 * i) := Nat.mod_lt _ (Nat.two_pow_pos _)
  have hb := Nat.two_pow_pos b
  have hp := Nat.two_pow_pos (32 * i)
  rw [log2_top _ _ _ _ hr h1 h2, if_neg]
  have := Nat.mul_pos hp (show 0 < d by omega)
  omega
theorem nL_lt {P : List Int} (h : PosL P) : nL P < 4294967296 ^ 11 := by
  have := SL_lt P (fun j hj => h.2 j (by rw [← h.1]; exact hj))
  rw [h.1] at this
  have e : ((4294967296 : Int) ^ 11) = ((4294967296 ^ 11 : Nat) : Int) := by simp
  rw [e] at this
  unfold nL
  omega
theorem topV_all {P : List Int} (h : PosL P) : topV (nL P) 11 = if nL P = 0 then -1 else ((nL P).log2 : Int) := by
  unfold topV
  rw [Nat.mod_eq_of_lt (nL_lt h)]
theorem log2_nL {P : List Int} (h : PosL P) (h0 : nL P ≠ 0) : (nL P).log2 < 352 := by
  have hs : ∀ s, s = 32 * 11 → nL P < 2 ^ s := fun s hs => by
    have e : (2 : Nat) ^ s = 4294967296 ^ 11 := by
      have e2 : (4294967296 : Nat) = 2 ^ 32 := by decide
      rw [e2, ← Nat.pow_mul, hs]
    rw [e]; exact nL_lt h
  obtain ⟨s, e⟩ : ∃ s, s = 32 * 11 := ⟨_, rfl⟩
  have h1 : (nL P).log2 < s := (Nat.log2_lt h0).2 (hs s e)
  omega
/-- k limbs turned round. -/
def negL : Nat → List Int → List Int
  | 0, L => L
  | k + 1, L => (negL k L).set k (-(L.getD k 0))
theorem negL_len (k : Nat) (L : List Int) : (negL k L).length = L.length := by
  induction k with
  | zero => rfl
  | succ k ih => unfold negL; rw [List.length_set, ih]
theorem negL_get (L : List Int) : ∀ k, k ≤ L.length → ∀ j, (negL k L).getD j 0 = if j < k then -(L.getD j 0) else L.getD j 0
  | 0, _, j => by rw [if_neg (by omega)]; rfl
  | k + 1, hk, j => by
    have ih := negL_get L k (by omega) j
    unfold negL
    rw [getD_set _ _ _ _ (by rw [negL_len]; omega), ih]
    by_cases h : j = k
    · subst h; rw [if_pos rfl, if_pos (by omega)]
    · rw [if_neg h]
      by_cases h2 : j < k
      · rw [if_pos h2, if_pos (by omega)]
      · rw [if_neg h2, if_neg (by omega)]
theorem SL_ext : ∀ (l m : List Int), l.length = m.length → (∀ j, l.getD j 0 = -(m.getD j 0)) → SL l = -SL m
  | [], [], _, _ => rfl
  | a :: l, b :: m, hl, h => by
    have h0 : a = -b := h 0
    have ih := SL_ext l m (by simpa using hl) (fun j => h (j + 1))
    show a + 4294967296 * SL l = -(b + 4294967296 * SL m)
    rw [ih, h0]; omega
  | [], _ :: _, hl, _ => by cases hl
  | _ :: _, [], hl, _ => by cases hl
theorem SL_neg (L : List Int) (hl : L.length = 11) : SL (negL 11 L) = -SL L := by
  refine SL_ext _ _ (negL_len 11 L) fun j => ?_
  rw [negL_get L 11 (by omega) j]
  by_cases h : j < 11
  · rw [if_pos h]
  · rw [if_neg h]
    have : L.getD j 0 = 0 := by rw [List.getD_eq_getElem?_getD, List.getElem?_eq_none (by omega)]; rfl
    rw [this]; rfl
/-- The sign of a sum by its carried limbs, and what stands behind it. -/
theorem sum_pos (L : List Int) (hl : L.length = 11) (hs : SL L < 4294967296 ^ 11) (h : 0 ≤ (carryL 10 L).getD 10 0) : PosL (carryL 10 L) ∧ SL (carryL 10 L) = SL L := by
  have hlen : (carryL 10 L).length = 11 := (carryL_len 10 L).trans hl
  have hlow := carry_low L hl 10 (by decide)
  have hv := SL_carry L hl 10 (by decide)
  obtain ⟨r, r0, r1, r2⟩ := SL_sign (carryL 10 L) hlen hlow
  refine ⟨⟨hlen, fun j hj => ?_⟩, hv⟩
  by_cases h10 : j < 10
  · exact hlow j h10
  · have e : j = 10 := by omega
    subst e
    refine ⟨h, ?_⟩
    rw [← hv, r2] at hs
    have e : ((4294967296 : Int) ^ 11) = 4294967296 ^ 10 * 4294967296 := Int.pow_succ 4294967296 10
    rw [e] at hs
    have hp : (0 : Int) < 4294967296 ^ 10 := Int.pow_pos (by decide)
    generalize (4294967296 : Int) ^ 10 = Q at *
    generalize (carryL 10 L).getD 10 0 = a at *
    have : Q * a < Q * 4294967296 := by omega
    exact Int.lt_of_mul_lt_mul_left this (by omega)
theorem sum_neg (L : List Int) (hl : L.length = 11) (hs : -(4294967296 ^ 11) < SL L) (h : (carryL 10 L).getD 10 0 < 0) : SL L < 0 ∧ SL (negL 11 (carryL 10 L)) = -SL L ∧ ∀ j, -4294967297 ≤ (negL 11 (carryL 10 L)).getD j 0 ∧ (negL 11 (carryL 10 L)).getD j 0 ≤ 4294967297 := by
  have hlen : (carryL 10 L).length = 11 := (carryL_len 10 L).trans hl
  have hlow := carry_low L hl 10 (by decide)
  have hv := SL_carry L hl 10 (by decide)
  have hn := SL_neg (carryL 10 L) hlen
  obtain ⟨r, r0, r1, r2⟩ := SL_sign (carryL 10 L) hlen hlow
  have hp : (0 : Int) < 4294967296 ^ 10 := Int.pow_pos (by decide)
  have hlt : SL L < 0 := by
    rw [← hv, r2]
    generalize (4294967296 : Int) ^ 10 = Q at *
    generalize (carryL 10 L).getD 10 0 = a at *
    have h1 : Q * a ≤ Q * (-1) := Int.mul_le_mul_of_nonneg_left (by omega) (by omega)
    omega
  refine ⟨hlt, by rw [hn, hv], fun j => ?_⟩
  rw [negL_get _ 11 (by omega)]
  by_cases h10 : j < 10
  · have := hlow j h10
    rw [if_pos (by omega)]; omega
  · by_cases h11 : j = 10
    · subst h11
      rw [if_pos (by omega)]
      have h5 : -4294967297 ≤ (carryL 10 L).getD 10 0 := by
        rw [← hv, r2] at hs
        have e : ((4294967296 : Int) ^ 11) = 4294967296 ^ 10 * 4294967296 := Int.pow_succ 4294967296 10
        rw [e] at hs
        generalize (4294967296 : Int) ^ 10 = Q at *
        generalize (carryL 10 L).getD 10 0 = a at *
        have h2 : Q * (-4294967297) < Q * a := by
          have e3 : Q * (-4294967297) = -(Q * 4294967296) - Q := by omega
          omega
        exact Int.le_of_lt (Int.lt_of_mul_lt_mul_left h2 (by omega))
      omega
    · rw [if_neg (by omega)]
      have : (carryL 10 L).getD j 0 = 0 := by rw [List.getD_eq_getElem?_getD, List.getElem?_eq_none (by omega)]; rfl
      rw [this]; decide
/-- A sum below zero, turned round and carried anew. -/
theorem sum_turn (L : List Int) (hl : L.length = 11) (hs : -(4294967296 ^ 11) < SL L) (h : (carryL 10 L).getD 10 0 < 0) : PosL (carryL 10 (negL 11 (carryL 10 L))) ∧ SL (carryL 10 (negL 11 (carryL 10 L))) = -SL L := by
  obtain ⟨h1, h2, h3⟩ := sum_neg L hl hs h
  have hlen : (negL 11 (carryL 10 L)).length = 11 := (negL_len _ _).trans ((carryL_len 10 L).trans hl)
  have hlen2 : (carryL 10 (negL 11 (carryL 10 L))).length = 11 := (carryL_len 10 _).trans hlen
  have hlow := carry_low _ hlen 10 (by decide)
  have hv := SL_carry _ hlen 10 (by decide)
  obtain ⟨r, r0, r1, r2⟩ := SL_sign _ hlen2 hlow
  obtain ⟨p1, p2⟩ := sum_pos (negL 11 (carryL 10 L)) hlen (by rw [h2]; omega) (by
    rw [hv, h2] at r2
    have hp : (0 : Int) < 4294967296 ^ 10 := Int.pow_pos (by decide)
    generalize (4294967296 : Int) ^ 10 = Q at *
    generalize (carryL 10 (negL 11 (carryL 10 L))).getD 10 0 = a at *
    apply Int.not_lt.1
    intro ha
    have h1 : Q * a ≤ Q * (-1) := Int.mul_le_mul_of_nonneg_left (by omega) (by omega)
    omega)
  exact ⟨p1, by rw [p2, h2]⟩
end Go.Proofs.Ytndhlgbpfkidbaa.n03

