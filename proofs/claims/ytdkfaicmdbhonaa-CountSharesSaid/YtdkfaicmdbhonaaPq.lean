/-
  Layer 1, no program in sight: division bit by bit.
-/
import Derived.Test.YtdkfaicmdbhonaaPm
namespace Go.Words
set_option linter.unusedVariables false
/-- A bit of a number is a bit of its word. -/
theorem bit_word (l : List W) (j r : Nat) (hj : j < l.length) (hr : r < 32) : val l / 2 ^ (32 * j + r) % 2 = l[j].toNat / 2 ^ r % 2 := by
  have h1 := val_split l j (Nat.le_of_lt hj)
  have h2 := val_lt (l.take j)
  rw [List.length_take, Nat.min_eq_left (Nat.le_of_lt hj)] at h2
  have h3 : l.drop j = l[j] :: l.drop (j + 1) := List.drop_eq_getElem_cons hj
  have h4 : val (l.drop j) = l[j].toNat + 4294967296 * val (l.drop (j + 1)) := by rw [h3]; rfl
  have hp : pw j = 2 ^ (32 * j) := pw_eq j
  have h5 : val l / 2 ^ (32 * j) = val (l.drop j) := by
    rw [h1, ← hp, Nat.add_comm, Nat.mul_add_div (pw_pos j), Nat.div_eq_of_lt h2, Nat.add_zero]
  rw [Nat.pow_add, ← Nat.div_div_eq_div_mul, h5, h4]
  have h6 : (4294967296 : Nat) = 2 ^ r * (2 * 2 ^ (31 - r)) := by
    rw [← Nat.pow_succ', ← Nat.pow_add, show r + (31 - r + 1) = 32 by omega]
  rw [h6, Nat.mul_assoc, Nat.add_mul_div_left _ _ (Nat.pow_pos (by omega)), Nat.mul_assoc, Nat.add_mul_mod_self_left]
/-- A bit that is not set is set: the number grows by just that. -/
theorem set_word (l : List W) (j r m : Nat) (hj : j < l.length) (hr : r < 32) (hm : val l = m * 2 ^ (32 * j + r + 1)) : val (l.set j (l[j] ||| (1#32 <<< r))) = val l + 2 ^ (32 * j + r) := by
  have hs := val_set l j (l[j] ||| (1#32 <<< r)) hj
  have h1 := val_split l j (Nat.le_of_lt hj)
  have h2 := val_lt (l.take j)
  rw [List.length_take, Nat.min_eq_left (Nat.le_of_lt hj)] at h2
  have h3 : l.drop j = l[j] :: l.drop (j + 1) := List.drop_eq_getElem_cons hj
  have h4 : val (l.drop j) = l[j].toNat + 4294967296 * val (l.drop (j + 1)) := by rw [h3]; rfl
  have hp : pw j = 2 ^ (32 * j) := pw_eq j
  have h5 : val (l.drop j) = m * 2 ^ (r + 1) := by
    have e1 : val l / 2 ^ (32 * j) = val (l.drop j) := by
      rw [h1, ← hp, Nat.add_comm, Nat.mul_add_div (pw_pos j), Nat.div_eq_of_lt h2, Nat.add_zero]
    rw [← e1, hm, Nat.add_assoc, Nat.pow_add, ← Nat.mul_assoc, Nat.mul_right_comm, Nat.mul_div_cancel _ (Nat.pow_pos (by omega))]
  have h6 : (4294967296 : Nat) = 2 ^ (31 - r) * 2 ^ (r + 1) := by
    rw [← Nat.pow_add, show 31 - r + (r + 1) = 32 by omega]
  have h7 : ∃ q, l[j].toNat = q * 2 ^ (r + 1) := by
    have h8 : l[j].toNat % 2 ^ (r + 1) = 0 := by
      have e2 : (l[j].toNat + 4294967296 * val (l.drop (j + 1))) % 2 ^ (r + 1) = 0 := by rw [← h4, h5]; exact Nat.mul_mod_left _ _
      rw [h6, Nat.mul_right_comm, Nat.add_mul_mod_self_right] at e2
      exact e2
    exact ⟨l[j].toNat / 2 ^ (r + 1), by have := Nat.div_add_mod l[j].toNat (2 ^ (r + 1)); rw [h8, Nat.add_zero, Nat.mul_comm] at this; exact this.symm⟩
  obtain ⟨q, hq⟩ := h7
  have h9 : (l[j] ||| (1#32 <<< r)).toNat = l[j].toNat + 2 ^ r := by
    have e1 : (1#32 <<< r).toNat = 2 ^ r := by
      rw [BitVec.toNat_shiftLeft, Nat.shiftLeft_eq]
      show 1 * 2 ^ r % 2 ^ 32 = 2 ^ r
      rw [Nat.one_mul]; exact Nat.mod_eq_of_lt (Nat.pow_lt_pow_right (by omega) hr)
    rw [BitVec.toNat_or, e1, hq, ← Nat.shiftLeft_eq, ← Nat.shiftLeft_add_eq_or_of_lt (Nat.pow_lt_pow_right (by omega) (by omega))]
  rw [h9, Nat.mul_add] at hs
  rw [Nat.pow_add, ← hp]
  omega
/-- A step of the division. -/
theorem div_bit (X Y k : Nat) (hY : 0 < Y) : X / 2 ^ k = 2 * (X / 2 ^ (k + 1)) + X / 2 ^ k % 2 := by
  rw [Nat.pow_succ, ← Nat.div_div_eq_div_mul]; omega
theorem step_lt {X Y k : Nat} (hY : 0 < Y) (h : 2 * (X / 2 ^ (k + 1) % Y) + X / 2 ^ k % 2 < Y) : X / 2 ^ k % Y = 2 * (X / 2 ^ (k + 1) % Y) + X / 2 ^ k % 2 ∧ X / 2 ^ k / Y = 2 * (X / 2 ^ (k + 1) / Y) := by
  have h1 := div_bit X Y k hY
  have h2 := Nat.div_add_mod (X / 2 ^ (k + 1)) Y
  generalize X / 2 ^ (k + 1) / Y = q at *
  generalize X / 2 ^ (k + 1) % Y = R at *
  have h3 : X / 2 ^ k = (2 * R + X / 2 ^ k % 2) + Y * (2 * q) := by
    have : Y * (2 * q) = 2 * (Y * q) := by rw [Nat.mul_left_comm]
    omega
  generalize X / 2 ^ k % 2 = b at *
  rw [h3]
  exact ⟨by rw [Nat.add_mul_mod_self_left, Nat.mod_eq_of_lt h], by rw [Nat.add_mul_div_left _ _ hY, Nat.div_eq_of_lt h, Nat.zero_add]⟩
theorem step_ge {X Y k : Nat} (hY : 0 < Y) (h : Y ≤ 2 * (X / 2 ^ (k + 1) % Y) + X / 2 ^ k % 2) : X / 2 ^ k % Y = 2 * (X / 2 ^ (k + 1) % Y) + X / 2 ^ k % 2 - Y ∧ X / 2 ^ k / Y = 2 * (X / 2 ^ (k + 1) / Y) + 1 := by
  have h1 := div_bit X Y k hY
  have h2 := Nat.div_add_mod (X / 2 ^ (k + 1)) Y
  have h4 := Nat.mod_lt (X / 2 ^ (k + 1)) hY
  generalize X / 2 ^ (k + 1) / Y = q at *
  generalize X / 2 ^ (k + 1) % Y = R at *
  have hb : X / 2 ^ k % 2 < 2 := Nat.mod_lt _ (by omega)
  have h3 : X / 2 ^ k = (2 * R + X / 2 ^ k % 2 - Y) + Y * (2 * q + 1) := by
    have : Y * (2 * q + 1) = 2 * (Y * q) + Y := by rw [Nat.mul_add, Nat.mul_left_comm, Nat.mul_one]
    omega
  generalize X / 2 ^ k % 2 = b at *
  rw [h3]
  have hlt : 2 * R + b - Y < Y := by omega
  exact ⟨by rw [Nat.add_mul_mod_self_left, Nat.mod_eq_of_lt hlt], by rw [Nat.add_mul_div_left _ _ hY, Nat.div_eq_of_lt hlt, Nat.zero_add]⟩
end Go.Words
