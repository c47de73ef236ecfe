/-
  Natural numbers by digits of 16 bits, the lowest first (no program in it).
-/
import Derived.Test.YtoaecmoihbifoaaGen
namespace Go.R
set_option linter.unusedVariables false
set_option linter.unusedSimpArgs false
def val : List Nat → Nat | [] => 0 | x :: l => x + 65536 * val l
def digs (n : Nat) : List Nat := if h : n = 0 then [] else n % 65536 :: digs (n / 65536)
termination_by n
decreasing_by omega
theorem digs_zero : digs 0 = [] := by rw [digs]; simp
theorem digs_pos {n : Nat} (h : 0 < n) : digs n = n % 65536 :: digs (n / 65536) := by rw [digs]; rw [dif_neg (by omega)]
theorem digs_lt : ∀ n, ∀ x ∈ digs n, x < 65536 := by
  intro n
  induction n using Nat.strongRecOn with
  | _ n ih =>
    intro x hx
    by_cases h : n = 0
    · subst h; rw [digs_zero] at hx; cases hx
    · rw [digs_pos (by omega)] at hx
      rcases List.mem_cons.1 hx with rfl | hx
      · omega
      · exact ih _ (by omega) x hx
theorem val_digs : ∀ n, val (digs n) = n := by
  intro n
  induction n using Nat.strongRecOn with
  | _ n ih =>
    by_cases h : n = 0
    · subst h; rw [digs_zero]; rfl
    · rw [digs_pos (by omega)]
      show n % 65536 + 65536 * val (digs (n / 65536)) = n
      rw [ih _ (by omega)]; omega
theorem val_append : ∀ l m : List Nat, val (l ++ m) = val l + 65536 ^ l.length * val m
  | [], m => by simp [val]
  | x :: l, m => by
    show x + 65536 * val (l ++ m) = x + 65536 * val l + 65536 ^ (l.length + 1) * val m
    rw [val_append l m, Nat.mul_add, Nat.pow_succ, Nat.mul_comm (65536 ^ l.length) 65536, Nat.mul_assoc, Nat.add_assoc]
theorem val_push (l : List Nat) (x : Nat) : val (l ++ [x]) = val l + 65536 ^ l.length * x := by rw [val_append]; simp [val]
theorem val_zeros : ∀ n, val (List.replicate n 0) = 0
  | 0 => rfl
  | n + 1 => by rw [List.replicate_succ]; show 0 + 65536 * val (List.replicate n 0) = 0; rw [val_zeros n]
theorem val_lt : ∀ l : List Nat, (∀ x ∈ l, x < 65536) → val l < 65536 ^ l.length
  | [], _ => by decide
  | x :: l, h => by
    have h1 := val_lt l (fun y hy => h y (List.mem_cons_of_mem _ hy))
    have h2 := h x (List.mem_cons_self ..)
    show x + 65536 * val l < 65536 ^ (l.length + 1)
    rw [Nat.pow_succ]; omega
theorem val_zero_all {l : List Nat} (h : ∀ j (hj : j < l.length), l[j] = 0) : val l = 0 := by
  have : l = List.replicate l.length 0 := List.ext_getElem (by simp) (fun i h1 h2 => by rw [h i h1]; simp)
  rw [this, val_zeros]
/-- Digits without a zero at the end. -/
def Canon (l : List Nat) : Prop := (∀ x ∈ l, x < 65536) ∧ ∀ h : 0 < l.length, l[l.length - 1] ≠ 0
theorem canon_digs {l : List Nat} (h : Canon l) : digs (val l) = l := by
  induction l with
  | nil => exact digs_zero
  | cons x l ih =>
    obtain ⟨h1, h2⟩ := h
    have hx := h1 x (List.mem_cons_self ..)
    have hc : Canon l := by
      refine ⟨fun y hy => h1 y (List.mem_cons_of_mem _ hy), fun hl => ?_⟩
      have := h2 (by simp)
      simp only [List.length_cons, Nat.add_sub_cancel] at this
      rw [List.getElem_cons] at this
      rw [dif_neg (by omega)] at this
      exact this
    have hpos : 0 < x + 65536 * val l := by
      by_cases hl : l = []
      · subst hl
        have := h2 (by simp)
        simp at this
        omega
      · have : 0 < val l := by
          apply Nat.pos_of_ne_zero
          intro h0
          have := ih hc
          rw [h0, digs_zero] at this
          exact hl this.symm
        omega
    show digs (x + 65536 * val l) = x :: l
    rw [digs_pos hpos]
    have e1 : (x + 65536 * val l) % 65536 = x := by omega
    have e2 : (x + 65536 * val l) / 65536 = val l := by omega
    rw [e1, e2, ih hc]
theorem digs_len {n k : Nat} (h : n < 65536 ^ k) : (digs n).length ≤ k := by
  induction k generalizing n with
  | zero => have : n = 0 := by simpa using h
            subst this; rw [digs_zero]; exact Nat.le_refl _
  | succ k ih =>
    by_cases h0 : n = 0
    · subst h0; rw [digs_zero]; exact Nat.zero_le _
    · rw [digs_pos (by omega)]
      have : n / 65536 < 65536 ^ k := by rw [Nat.div_lt_iff_lt_mul (by decide)]; rw [Nat.pow_succ] at h; omega
      have := ih this
      simp only [List.length_cons]; omega
theorem digs_last {n : Nat} (h : 0 < (digs n).length) : (digs n)[(digs n).length - 1] ≠ 0 := by
  induction n using Nat.strongRecOn with
  | _ n ih =>
    by_cases h0 : n = 0
    · subst h0; rw [digs_zero] at h; cases h
    · have e := digs_pos (show 0 < n by omega)
      by_cases h1 : n / 65536 = 0
      · have e2 : digs n = [n % 65536] := by rw [e, h1, digs_zero]
        have : (digs n)[(digs n).length - 1] = n % 65536 := by simp only [e2]; rfl
        rw [this]; omega
      · have hl : 0 < (digs (n / 65536)).length := by rw [digs_pos (by omega)]; simp
        have := ih _ (by omega) hl
        have e3 : (digs n)[(digs n).length - 1] = (digs (n / 65536))[(digs (n / 65536)).length - 1] := by
          simp only [e, List.length_cons, Nat.add_sub_cancel]
          rw [List.getElem_cons, dif_neg (by omega)]
        rw [e3]; exact this
theorem canon_of_digs (n : Nat) : Canon (digs n) := ⟨digs_lt n, fun h => digs_last h⟩
/-- What is left of a list from a place on. -/
theorem val_drop (l : List Nat) (i : Nat) (h : i < l.length) : val (l.drop i) = l[i] + 65536 * val (l.drop (i + 1)) := by
  rw [List.drop_eq_getElem_cons h]; rfl
theorem val_drop_end (l : List Nat) (i : Nat) (h : l.length ≤ i) : val (l.drop i) = 0 := by rw [List.drop_eq_nil_of_le h]; rfl
/-- Trimmed. -/
theorem val_take (l : List Nat) (n : Nat) (hz : ∀ j (hj : j < l.length), n ≤ j → l[j] = 0) : val (l.take n) = val l := by
  conv => rhs; rw [← List.take_append_drop n l]
  rw [val_append, val_zero_all (l := l.drop n)]
  · omega
  · intro j hj
    rw [List.getElem_drop]
    exact hz _ _ (by omega)
/-- Which of two is greater: longer, or of the same length and greater in the first place from the top. -/
theorem val_cmp_len {l m : List Nat} (hl : Canon l) (hm : Canon m) (h : l.length < m.length) : val l < val m := by
  have h1 := val_lt l hl.1
  have h2 : 65536 ^ (m.length - 1) ≤ val m := by
    have hp : 0 < m.length := by omega
    have e : m = m.take (m.length - 1) ++ [m[m.length - 1]] := by
      rw [← List.take_succ_eq_append_getElem (by omega), show m.length - 1 + 1 = m.length by omega, List.take_length]
    rw [e, val_push]
    have h3 := hm.2 hp
    have h4 : (m.take (m.length - 1)).length = m.length - 1 := by simp
    rw [h4]
    generalize hq : m[m.length - 1] = q at h3 ⊢
    have h5 : 65536 ^ (m.length - 1) * 1 ≤ 65536 ^ (m.length - 1) * q := Nat.mul_le_mul_left _ (by omega)
    simp only [List.length_append, List.length_take, List.length_cons, List.length_nil]
    rw [show min (m.length - 1) m.length + (0 + 1) - 1 = m.length - 1 by omega]
    omega
  have h3 : 65536 ^ l.length ≤ 65536 ^ (m.length - 1) := Nat.pow_le_pow_right (by decide) (by omega)
  omega
theorem val_cmp_at {l m : List Nat} (hl : ∀ x ∈ l, x < 65536) (hm : ∀ x ∈ m, x < 65536) (he : l.length = m.length) (i : Nat) (hi : i < l.length) (hd : l.drop (i + 1) = m.drop (i + 1)) (h : l[i] < m[i]'(he ▸ hi)) : val l < val m := by
  have e1 : l = l.take i ++ l.drop i := (List.take_append_drop i l).symm
  have e2 : m = m.take i ++ m.drop i := (List.take_append_drop i m).symm
  rw [e1, e2, val_append, val_append, val_drop l i hi, val_drop m i (he ▸ hi), hd]
  have h1 := val_lt (l.take i) (fun x hx => hl x (List.mem_of_mem_take hx))
  have k1 : (l.take i).length = i := by simp; omega
  have k2 : (m.take i).length = i := by simp; omega
  rw [k1, k2]
  rw [k1] at h1
  generalize val (l.take i) = A at *
  generalize val (m.take i) = Bv at *
  generalize hx : l[i] = x at *
  generalize hy : m[i] = y at *
  generalize val (m.drop (i + 1)) = D at *
  have h2 : 65536 ^ i * (x + 65536 * D + 1) ≤ 65536 ^ i * (y + 65536 * D) := Nat.mul_le_mul_left _ (by omega)
  rw [Nat.mul_add, Nat.mul_one] at h2
  omega
end Go.R
