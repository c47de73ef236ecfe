/-
  Layer 1, plain: words multiplied as on paper.
-/
import Derived.Test.YtdkfaicmdbhonaaPw
namespace Go.Words
set_option linter.unusedVariables false
theorem val_set : ∀ (l : List W) (j : Nat) (v : W) (h : j < l.length), val (l.set j v) + pw j * l[j].toNat = val l + pw j * v.toNat
  | x :: r, 0, v, _ => by
    show v.toNat + 4294967296 * val r + 1 * x.toNat = x.toNat + 4294967296 * val r + 1 * v.toNat
    omega
  | x :: r, j + 1, v, h => by
    have hj : j < r.length := by simpa using h
    have ih := val_set r j v hj
    show x.toNat + 4294967296 * val (r.set j v) + 4294967296 * pw j * r[j].toNat = x.toNat + 4294967296 * val r + 4294967296 * pw j * v.toNat
    generalize r[j].toNat = a at *
    generalize v.toNat = b at *
    generalize pw j = p at *
    generalize val (r.set j v) = s at *
    generalize val r = t at *
    grind
/-- The words from a place on are 0. -/
def zeroFrom (l : List W) (k : Nat) : Prop := ∀ i (h : i < l.length), k ≤ i → l[i] = 0#32
theorem zero_of_lt (l : List W) (k : Nat) (h : val l < pw k) : zeroFrom l k := by
  intro i hi hk
  rcases Nat.eq_zero_or_pos l[i].toNat with h0 | h0
  · exact BitVec.eq_of_toNat_eq (by simpa using h0)
  · exfalso
    have h1 := val_split l (i + 1) (by omega)
    rw [val_take_succ l i hi] at h1
    have h2 := Nat.le_mul_of_pos_right (pw i) h0
    have h3 := pw_le hk
    omega
/-- Inside a row: of x's word number i, behind k words of y. -/
structure mulSt (x y : List W) (i k : Nat) (out : List W) (c : Nat) : Prop where
  len : out.length = x.length + y.length + 1
  car : c < 4294967296
  v : val out + c * pw (i + k) = val (x.take i) * val y + (at0 x i).toNat * pw i * val (y.take k)
  z : k ≤ y.length → zeroFrom out (i + y.length)
  e : y.length < k → c = 0
theorem mul_start (x y out : List W) (i : Nat) (hi : i < x.length) (hl : out.length = x.length + y.length + 1) (hv : val out = val (x.take i) * val y) : mulSt x y i 0 out 0 := by
  refine ⟨hl, by omega, by rw [hv]; simp [val], fun _ => zero_of_lt _ _ ?_, fun h => by omega⟩
  rw [hv, pw_add]
  have h1 := val_lt (x.take i)
  rw [List.length_take, Nat.min_eq_left (by omega)] at h1
  exact Nat.mul_lt_mul_of_lt_of_le h1 (Nat.le_of_lt (val_lt y)) (pw_pos _)
theorem sum_lt (a b c d : Nat) (ha : a < 4294967296) (hb : b < 4294967296) (hc : c < 4294967296) (hd : d < 4294967296) : a + b * c + d < 18446744073709551616 := by
  have : b * c ≤ 4294967295 * 4294967295 := Nat.mul_le_mul (by omega) (by omega)
  omega
theorem mul_step {x y out : List W} {i k c : Nat} (hi : i < x.length) (h : mulSt x y i k out c) (hk : k < y.length ∨ 0 < c) :
    k ≤ y.length ∧ ∃ hj : i + k < out.length, mulSt x y i (k + 1) (out.set (i + k) (BitVec.ofNat 32 (out[i + k].toNat + (at0 x i).toNat * (at0 y k).toNat + c))) ((out[i + k].toNat + (at0 x i).toNat * (at0 y k).toNat + c) / 4294967296) := by
  have hky : k ≤ y.length := by
    rcases hk with hk | hk
    · omega
    · rcases Nat.lt_or_ge y.length k with h' | h'
      · have := h.e h'; omega
      · exact h'
  have hj : i + k < out.length := by rw [h.len]; omega
  refine ⟨hky, hj, by rw [List.length_set]; exact h.len, ?_, ?_, ?_, ?_⟩
  · have := sum_lt _ _ _ _ (out[i + k].isLt) ((at0 x i).isLt) ((at0 y k).isLt) h.car
    omega
  · have hs := val_set out (i + k) (BitVec.ofNat 32 (out[i + k].toNat + (at0 x i).toNat * (at0 y k).toNat + c)) hj
    rw [BitVec.toNat_ofNat] at hs
    rw [val_take_at0]
    have hd := Nat.mod_add_div (out[i + k].toNat + (at0 x i).toNat * (at0 y k).toNat + c) 4294967296
    have hv := h.v
    show _ + _ * pw (i + k + 1) = _
    have hp : pw (i + k + 1) = 4294967296 * pw (i + k) := rfl
    have hq : pw (i + k) = pw i * pw k := pw_add i k
    rw [hp]
    rw [show (2 : Nat) ^ 32 = 4294967296 from rfl] at hs
    generalize val (out.set (i + k) _) = V at *
    generalize (out[i + k].toNat + (at0 x i).toNat * (at0 y k).toNat + c) % 4294967296 = r at *
    generalize (out[i + k].toNat + (at0 x i).toNat * (at0 y k).toNat + c) / 4294967296 = q at *
    generalize out[i + k].toNat = o at *
    generalize (at0 x i).toNat = a at *
    generalize (at0 y k).toNat = b at *
    generalize pw (i + k) = P at *
    generalize pw i = p1 at *
    generalize pw k = p2 at *
    generalize val out = U at *
    generalize val (x.take i) * val y = T at *
    generalize val (y.take k) = S at *
    grind
  · intro hk1 j hjl hjk
    rw [List.getElem_set, if_neg (by omega)]
    exact h.z hky j (by simpa using hjl) hjk
  · intro hk1
    have hkk : k = y.length := by omega
    subst hkk
    have h0 : out[i + y.length].toNat = 0 := by rw [h.z (Nat.le_refl _) (i + y.length) hj (Nat.le_refl _)]; rfl
    have hy0 : (at0 y y.length).toNat = 0 := by rw [at0_ge y _ (Nat.le_refl _)]; rfl
    rw [h0, hy0]
    have := h.car
    omega
theorem mul_end {x y out : List W} {i k : Nat} (hi : i < x.length) (h : mulSt x y i k out 0) (hk : y.length ≤ k) : val out = val (x.take (i + 1)) * val y := by
  have hv := h.v
  rw [val_take_all y k hk] at hv
  rw [val_take_at0]
  generalize val (x.take i) = a at *
  generalize val y = b at *
  generalize (at0 x i).toNat = c at *
  generalize pw i = p at *
  generalize val out = o at *
  generalize pw (i + k) = q at *
  grind
end Go.Words
