/-
  Reals: from chapter 3's Nk, what is needed here.
-/
import Derived.Test.YtndhlgbpfkidbaaRNj
namespace Go.Proofs.Ytndhlgbpfkidbaa.n03
open Go.RowKit Go.K Go.R
open Ieee (Format Datum Toward)
set_option linter.unusedVariables false
set_option linter.unusedSimpArgs false
theorem single_small (m : Nat) (p : Int) (h0 : 0 < m) (hp : -5000 ≤ p) (h : p + m.log2 ≤ 64) : Ieee.single.nearest false m p < 2139095040 := by
  unfold Format.nearest
  rw [if_neg (by omega), single_least, single_binade, single_inf]
  generalize hlast : max (p + (m.log2 : Int) - ((Ieee.single.fractionBits : Nat) : Int)) (-149) = last
  have hf : Ieee.single.fractionBits = 23 := rfl
  rw [hf] at hlast
  have hl : -149 ≤ last := by omega
  have hl2 : last ≤ 41 := by omega
  dsimp only
  rw [cut_units false m p last (-5000) hp (by omega), wd_word, wd_false]
  have hX1 : sc (-5000) m p < 16777216 * 2 ^ (last - -5000).toNat := by
    have h1 : m < 2 ^ (m.log2 + 1) := Nat.lt_log2_self
    have h2 : sc (-5000) m p < 2 ^ (m.log2 + 1) * 2 ^ (p - -5000).toNat := Nat.mul_lt_mul_of_pos_right h1 (Nat.two_pow_pos _)
    have h3 : (2 : Nat) ^ (m.log2 + 1) * 2 ^ (p - -5000).toNat ≤ 2 ^ 24 * 2 ^ (last - -5000).toNat := by
      rw [← Nat.pow_add, ← Nat.pow_add]; exact Nat.pow_le_pow_right (by omega) (by omega)
    exact Nat.lt_of_lt_of_le h2 h3
  have hq : sc (-5000) m p / 2 ^ (last - -5000).toNat < 16777216 := by rw [Nat.div_lt_iff_lt_mul (Nat.two_pow_pos _)]; exact hX1
  have hm : (more (sc (-5000) m p) (2 ^ (last - -5000).toNat)).toNat ≤ 1 := by cases more (sc (-5000) m p) (2 ^ (last - -5000).toNat) <;> decide
  generalize (more (sc (-5000) m p) (2 ^ (last - -5000).toNat)).toNat = mo at *
  generalize sc (-5000) m p / 2 ^ (last - -5000).toNat = q at *
  have hk : (last - -149).toNat ≤ 190 := by omega
  generalize (last - -149).toNat = k at *
  have hle : k * 8388608 + (q + mo) < 2139095040 := by clear hX1; omega
  exact Nat.lt_of_le_of_lt (Nat.min_le_left _ _) hle
theorem widen_num {x : Nat} {s : Bool} {m : Nat} {i : Int} (h : Ieee.single.read x = .number s m i) (h2 : (Ieee.double.read (Ieee.double.write (.number s m i))).isInfinity = false) : floatToFloatBits .f32 x .f64 = some (Ieee.double.write (.number s m i)) := by
  have hd : FloatKind.f32.decode x = .number s m i := h
  have h2' : (FloatKind.f64.decode (FloatKind.f64.encode (.number s m i))).isInfinity = false := h2
  unfold floatToFloatBits
  rw [if_neg (by decide), hd]
  dsimp only
  rw [h2']; rfl
theorem narrow_num {x : Nat} {s : Bool} {m : Nat} {i : Int} (h : Ieee.double.read x = .number s m i) (h2 : (Ieee.single.read (Ieee.single.write (.number s m i))).isInfinity = false) : floatToFloatBits .f64 x .f32 = some (Ieee.single.write (.number s m i)) := by
  have hd : FloatKind.f64.decode x = .number s m i := h
  have h2' : (FloatKind.f32.decode (FloatKind.f32.encode (.number s m i))).isInfinity = false := h2
  unfold floatToFloatBits
  rw [if_neg (by decide), hd]
  dsimp only
  rw [h2']; rfl
theorem dnearest_le (m : Nat) (p : Int) : Ieee.double.nearest false m p ≤ 9218868437227405312 := by
  have hw : ∀ r, Ieee.double.word false r = r := fun _ => rfl
  unfold Format.nearest
  by_cases h : m = 0
  · rw [if_pos h, hw]; exact Nat.zero_le _
  · rw [if_neg h, double_inf]
    dsimp only
    rw [hw]
    exact Nat.min_le_right _ _
theorem dnearest_true (m : Nat) (p : Int) : Ieee.double.nearest true m p = 9223372036854775808 + Ieee.double.nearest false m p := by
  have hw : ∀ r, Ieee.double.word false r = r := fun _ => rfl
  have hw2 : ∀ r, Ieee.double.word true r = 9223372036854775808 + r := fun r => by unfold Format.word; rw [double_sign]; rfl
  unfold Format.nearest
  by_cases h : m = 0
  · rw [if_pos h, if_pos h, hw, hw2]
  · rw [if_neg h, if_neg h]
    dsimp only
    rw [cut_neg true, hw, hw2]
theorem dread_true {r : Nat} {m : Nat} {p : Int} (hr : r ≤ 9218868437227405312) (h : Ieee.double.read r = .number false m p) : Ieee.double.read (9223372036854775808 + r) = .number true m p := by
  have e1 : (9223372036854775808 + r) % 9223372036854775808 = r := by omega
  have e2 : r % 9223372036854775808 = r := by omega
  have e3 : (9223372036854775808 + r) / 9223372036854775808 = 1 := by omega
  have e4 : r / 9223372036854775808 = 0 := by omega
  unfold Format.read at h ⊢
  rw [double_least, double_binade, double_inf, double_sign] at *
  dsimp only at h ⊢
  rw [e2, e4] at h
  rw [e1, e3]
  by_cases c1 : r < 4503599627370496
  · rw [if_pos c1] at h ⊢
    injection h with h1 h2 h3
    rw [h2, h3]; rfl
  · rw [if_neg c1] at h ⊢
    by_cases c2 : r < 9218868437227405312
    · rw [if_pos c2] at h ⊢
      injection h with h1 h2 h3
      rw [h2, h3]; rfl
    · rw [if_neg c2] at h
      by_cases c3 : r = 9218868437227405312
      · rw [if_pos c3] at h; cases h
      · rw [if_neg c3] at h; cases h
theorem kind_word {x : Nat} (hx : x < 4294967296) : x = wd (sgn x) (rg x) := by
  unfold wd sgn rg
  by_cases h2 : x / 2147483648 % 2 = 1
  · rw [if_pos (by simpa using h2)]; omega
  · rw [if_neg (by simpa using h2)]; omega
end Go.Proofs.Ytndhlgbpfkidbaa.n03

