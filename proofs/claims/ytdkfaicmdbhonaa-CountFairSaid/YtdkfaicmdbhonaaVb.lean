/-
  Layer 1, plain: shares add up to all, none is off by a whole coin, and a greater weight has no smaller share.
-/
import Derived.Test.YtdkfaicmdbhonaaTk
namespace Go.Proofs.Ytdkfaicmdbhonaa
open Go.RowKit Go.K
set_option linter.unusedVariables false
set_option linter.unusedSimpArgs false
theorem sumN_le {f g : Nat → Nat} {n : Nat} (h : ∀ i, i < n → f i ≤ g i) : sumN f n ≤ sumN g n := by
  induction n with
  | zero => exact Nat.le_refl _
  | succ n ih =>
    have h1 := ih (fun i hi => h i (by omega))
    have h2 := h n (by omega)
    simp only [sumN]; omega
theorem sumN_lt {f g : Nat → Nat} {n : Nat} (h : ∀ i, i < n → f i ≤ g i) (k : Nat) (hk : k < n) (hlt : f k < g k) : sumN f n < sumN g n := by
  induction n with
  | zero => omega
  | succ n ih =>
    have h2 := h n (by omega)
    simp only [sumN]
    by_cases e : k = n
    · subst e
      have h1 := sumN_le (fun i hi => h i (by omega) : ∀ i, i < k → f i ≤ g i)
      omega
    · have h1 := ih (fun i hi => h i (by omega)) (by omega)
      omega
theorem sumN_scale (f : Nat → Nat) (S : Nat) : ∀ n, sumN (fun i => S * f i) n = S * sumN f n
  | 0 => by simp [sumN]
  | n + 1 => by simp only [sumN]; rw [sumN_scale f S n, Nat.mul_add]
def bN (p : Prop) [Decidable p] : Nat := if p then 1 else 0
theorem bN_le {p q : Prop} [Decidable p] [Decidable q] (h : p → q) : bN p ≤ bN q := by
  unfold bN
  by_cases hp : p
  · rw [if_pos hp, if_pos (h hp)]; exact Nat.le_refl _
  · rw [if_neg hp]; exact Nat.zero_le _
def ct (r : Nat → Nat) (n i : Nat) : Nat := sumN (fun k => bN (Tm r k i)) n
theorem cntM_ct (r : Nat → Nat) (i : Nat) : ∀ n, cntM r n i = ct r n i
  | 0 => rfl
  | n + 1 => by
    have h := cntM_ct r i n
    unfold cntM ct at *
    rw [List.range_succ, List.countP_append, List.countP_singleton, h]
    simp only [sumN]
    unfold bN
    by_cases c : Tm r n i
    · simp [c]
    · simp [c]
theorem ct_le {r : Nat → Nat} {n x y : Nat} (h : Tm r x y) : ct r n x ≤ ct r n y := sumN_le fun k _ => bN_le fun h2 => Tm_trans r _ _ _ h2 h
theorem ct_lt {r : Nat → Nat} {n x y : Nat} (h : Tm r x y) (hx : x < n) : ct r n x < ct r n y := by
  refine sumN_lt (fun k _ => bN_le fun h2 => Tm_trans r _ _ _ h2 h) x hx ?_
  unfold bN
  rw [if_neg (Tm_irr r x), if_pos h]; exact Nat.zero_lt_one
theorem Tm_tot (r : Nat → Nat) {x y : Nat} (h : x ≠ y) : Tm r x y ∨ Tm r y x := by unfold Tm; omega
theorem ct_bound (r : Nat → Nat) (n i : Nat) : ct r n i ≤ n := by
  have h : ct r n i ≤ sumN (fun _ => 1) n := sumN_le fun k _ => by unfold bN; split <;> omega
  have h2 : ∀ n, sumN (fun _ => 1) n = n := fun n => by induction n with | zero => rfl | succ n ih => simp only [sumN]; omega
  rw [h2] at h; exact h
/-- As many places stand below a rank as its number. -/
theorem ct_count (r : Nat → Nat) : ∀ n j, j ≤ n → sumN (fun i => bN (ct r n i < j)) n = j
  | 0, j, h => by have : j = 0 := by omega
                  subst this; rfl
  | n + 1, j, h => by
    have key : ∀ i, i < n → ct r (n + 1) i = ct r n i + bN (ct r n n ≤ ct r n i) := fun i hi => by
      show ct r n i + bN (Tm r n i) = _
      congr 1
      unfold bN
      rcases Tm_tot r (show i ≠ n by omega) with h1 | h1
      · have h2 := ct_lt (n := n) h1 hi
        rw [if_neg (fun h3 => Tm_irr r i (Tm_trans r _ _ _ h1 h3)), if_neg (by omega)]
      · have h2 := ct_le (n := n) h1
        rw [if_pos h1, if_pos h2]
    have hn : ct r (n + 1) n = ct r n n := by
      show ct r n n + bN (Tm r n n) = _
      unfold bN; rw [if_neg (Tm_irr r n)]; omega
    have hb := ct_bound r n n
    simp only [sumN]
    rw [hn]
    by_cases c : ct r n n < j
    · have e : sumN (fun i => bN (ct r (n + 1) i < j)) n = sumN (fun i => bN (ct r n i < j - 1)) n := sumN_congr fun i hi => by
        rw [key i hi]
        unfold bN
        by_cases d : ct r n n ≤ ct r n i
        · rw [if_pos d]
          by_cases d2 : ct r n i < j - 1
          · rw [if_pos d2, if_pos (by omega)]
          · rw [if_neg d2, if_neg (by omega)]
        · rw [if_neg d, if_pos (by omega), if_pos (by omega)]
      rw [e, ct_count r n (j - 1) (by omega)]
      unfold bN; rw [if_pos c]; omega
    · have e : sumN (fun i => bN (ct r (n + 1) i < j)) n = sumN (fun i => bN (ct r n i < j)) n := sumN_congr fun i hi => by
        rw [key i hi]
        unfold bN
        by_cases d : ct r n n ≤ ct r n i
        · rw [if_pos d, if_neg (by omega), if_neg (by omega)]
        · rw [if_neg d, Nat.add_zero]
      rw [e, ct_count r n j (by omega)]
      unfold bN; rw [if_neg c, Nat.add_zero]
theorem shV_ct (t : Nat) (l : List (BitVec 64)) (i : Nat) : shV t l i = qV t l i + bN (ct (rV t l) l.length i < leftV t l) := by
  unfold shV shJ bN; rw [cntM_ct]
theorem sh_all {t : Nat} {l : List (BitVec 64)} (h : 0 < sumL l) (hn : 0 < l.length) : sumN (shV t l) l.length = t := by
  rw [sumN_congr fun i _ => shV_ct t l i, sumN_add, ct_count _ _ _ (Nat.le_of_lt (left_lt h hn))]
  have := q_le (t := t) h
  unfold leftV; omega
theorem wq_sh {t : Nat} {l : List (BitVec 64)} (h : 0 < sumL l) (ht : t < 18446744073709551616) {i : Nat} (hi : i < l.length) : wq (shL t l) i = shV t l i := by
  rw [wq_get _ _ (by rw [shL_len]; exact hi)]
  unfold shL
  have := shV_lt (t := t) h hi
  rw [List.getElem_map, List.getElem_range, BitVec.toNat_ofNat, Nat.mod_eq_of_lt (by omega)]
theorem sum_sh {t : Nat} {l : List (BitVec 64)} (h : 0 < sumL l) (hn : 0 < l.length) (ht : t < 18446744073709551616) : sumL (shL t l) = t := by
  rw [sumL_all, shL_len, sumN_congr fun i hi => wq_sh h ht hi, sh_all h hn]
/-- One more is given for a rest alone. -/
theorem rest_pos {t : Nat} {l : List (BitVec 64)} (h : 0 < sumL l) {i : Nat} (hc : ct (rV t l) l.length i < leftV t l) : 0 < rV t l i := by
  rcases Nat.eq_zero_or_pos (rV t l i) with e | e
  · exfalso
    have h1 : sumN (fun k => bN (0 < rV t l k)) l.length ≤ ct (rV t l) l.length i := sumN_le fun k _ => bN_le fun h2 => by unfold Tm; omega
    have h2 : sumN (rV t l) l.length ≤ sumN (fun k => sumL l * bN (0 < rV t l k)) l.length := sumN_le fun k _ => by
      have h3 : rV t l k < sumL l := Nat.mod_lt _ h
      unfold bN
      split <;> omega
    rw [sumN_scale, ← left_eq h] at h2
    have := Nat.le_of_mul_le_mul_left h2 h
    omega
  · exact e
theorem sh_near {t : Nat} {l : List (BitVec 64)} (h : 0 < sumL l) (i : Nat) : (((shV t l i * sumL l : Nat) : Int) - ((t * wq l i : Nat) : Int)).natAbs < sumL l := by
  have h1 : sumL l * qV t l i + rV t l i = t * wq l i := Nat.div_add_mod _ _
  have h2 : rV t l i < sumL l := Nat.mod_lt _ h
  rw [shV_ct]
  by_cases c : ct (rV t l) l.length i < leftV t l
  · have h3 := rest_pos h c
    unfold bN; rw [if_pos c, Nat.add_mul, Nat.mul_comm (qV t l i), Nat.one_mul]
    omega
  · unfold bN; rw [if_neg c, Nat.add_zero, Nat.mul_comm (qV t l i)]
    omega
theorem sh_mono {t : Nat} {l : List (BitVec 64)} (h : 0 < sumL l) {i j : Nat} (hw : wq l j < wq l i) : shV t l j ≤ shV t l i := by
  rw [shV_ct, shV_ct]
  rcases Nat.eq_zero_or_pos t with e | e
  · subst e
    have hl : leftV 0 l = 0 := by unfold leftV; omega
    unfold bN qV; rw [hl, if_neg (by omega), if_neg (by omega)]; simp
  · have h0 : t * wq l j < t * wq l i := Nat.mul_lt_mul_of_pos_left hw e
    have h1 : sumL l * qV t l i + rV t l i = t * wq l i := Nat.div_add_mod _ _
    have h2 : sumL l * qV t l j + rV t l j = t * wq l j := Nat.div_add_mod _ _
    have h3 : rV t l i < sumL l := Nat.mod_lt _ h
    have hq : qV t l j ≤ qV t l i := Nat.div_le_div_right (Nat.le_of_lt h0)
    rcases Nat.eq_or_lt_of_le hq with e2 | e2
    · rw [e2] at h2 ⊢
      have ht : Tm (rV t l) i j := by unfold Tm; omega
      have hc := ct_le (n := l.length) ht
      have := bN_le (p := ct (rV t l) l.length j < leftV t l) (q := ct (rV t l) l.length i < leftV t l) (fun h => by omega)
      omega
    · have : ∀ (p : Prop) [Decidable p], bN p ≤ 1 := fun p _ => by unfold bN; split <;> omega
      have := this (ct (rV t l) l.length j < leftV t l)
      omega
theorem sh_same {t : Nat} {l : List (BitVec 64)} {i j : Nat} (hw : wq l j = wq l i) (hji : j < i) : shV t l i ≤ shV t l j ∧ shV t l j - shV t l i ≤ 1 := by
  rw [shV_ct, shV_ct]
  have hq : qV t l j = qV t l i := by unfold qV; rw [hw]
  have hr : rV t l j = rV t l i := by unfold rV; rw [hw]
  have ht : Tm (rV t l) j i := by unfold Tm; omega
  have hc := ct_le (n := l.length) ht
  have h1 := bN_le (p := ct (rV t l) l.length i < leftV t l) (q := ct (rV t l) l.length j < leftV t l) (fun h => by omega)
  have : ∀ (p : Prop) [Decidable p], bN p ≤ 1 := fun p _ => by unfold bN; split <;> omega
  have := this (ct (rV t l) l.length j < leftV t l)
  omega
end Go.Proofs.Ytdkfaicmdbhonaa
