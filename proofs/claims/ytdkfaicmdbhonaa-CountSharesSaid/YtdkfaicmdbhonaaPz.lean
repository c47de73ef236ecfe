/-
  Layer 1, plain: shares: parts rounded down, and one more for the greatest rests.
-/
import Derived.Test.YtdkfaicmdbhonaaTh
import Derived.Test.YtdkfaicmdbhonaaWe
namespace Go.Proofs.Ytdkfaicmdbhonaa
open Go.RowKit Go.K
open Go.Stab (swp rot Srt Prm Out)
set_option linter.unusedVariables false
set_option linter.unusedSimpArgs false
def wq (l : List (BitVec 64)) (k : Nat) : Nat := (l.getD k 0).toNat
theorem wq_lt (l : List (BitVec 64)) (k : Nat) : wq l k < 18446744073709551616 := (l.getD k 0).isLt
theorem wq_get (l : List (BitVec 64)) (k : Nat) (h : k < l.length) : wq l k = l[k].toNat := by unfold wq; rw [List.getD_eq_getElem?_getD, List.getElem?_eq_getElem h]; rfl
def sumN (f : Nat → Nat) : Nat → Nat
  | 0 => 0
  | n + 1 => sumN f n + f n
theorem sumN_mono (f : Nat → Nat) {m n : Nat} (h : m ≤ n) : sumN f m ≤ sumN f n := by
  induction n with
  | zero => have : m = 0 := by omega
            rw [this]; exact Nat.le_refl _
  | succ n ih =>
    rcases Nat.lt_or_ge m (n + 1) with e | e
    · have := ih (by omega); simp only [sumN]; omega
    · have : m = n + 1 := by omega
      rw [this]; exact Nat.le_refl _
theorem sumN_part (f : Nat → Nat) {i n : Nat} (h : i < n) : f i ≤ sumN f n := by
  have := sumN_mono f (show i + 1 ≤ n from h)
  simp only [sumN] at this; omega
theorem sumN_congr {f g : Nat → Nat} {n : Nat} (h : ∀ i, i < n → f i = g i) : sumN f n = sumN g n := by
  induction n with
  | zero => rfl
  | succ n ih => simp only [sumN]; rw [ih (fun i hi => h i (by omega)), h n (by omega)]
theorem sumN_add (f g : Nat → Nat) (n : Nat) : sumN (fun i => f i + g i) n = sumN f n + sumN g n := by
  induction n with
  | zero => rfl
  | succ n ih => simp only [sumN]; omega
theorem sumN_list (f : Nat → Nat) (n : Nat) : sumN f n = ((List.range n).map f).sum := by
  induction n with
  | zero => rfl
  | succ n ih => rw [List.range_succ, List.map_append, List.sum_append, ← ih]; simp [sumN]
theorem sumL_N (l : List (BitVec 64)) : ∀ k, k ≤ l.length → sumL (l.take k) = sumN (wq l) k
  | 0, _ => by simp [sumL, sumN]
  | k + 1, h => by rw [sumL_take_succ l k h, sumL_N l k (by omega)]; simp only [sumN]; rw [wq_get l k h]
theorem sumL_all (l : List (BitVec 64)) : sumL l = sumN (wq l) l.length := by
  rw [← sumL_N l l.length (Nat.le_refl _), List.take_length]
/-- A part rounded down; what is left of it. -/
def qV (t : Nat) (l : List (BitVec 64)) (i : Nat) : Nat := t * wq l i / sumL l
def rV (t : Nat) (l : List (BitVec 64)) (i : Nat) : Nat := t * wq l i % sumL l
theorem qr_sum (t : Nat) (l : List (BitVec 64)) : ∀ n, sumL l * sumN (qV t l) n + sumN (rV t l) n = t * sumN (wq l) n
  | 0 => by simp [sumN]
  | n + 1 => by
    have h := qr_sum t l n
    have h2 := Nat.div_add_mod (t * wq l n) (sumL l)
    simp only [sumN]
    rw [Nat.mul_add, Nat.mul_add]
    unfold qV rV at *
    omega
theorem q_le {t : Nat} {l : List (BitVec 64)} (h : 0 < sumL l) : sumN (qV t l) l.length ≤ t := by
  have h1 := qr_sum t l l.length
  rw [← sumL_all, Nat.mul_comm t] at h1
  exact Nat.le_of_mul_le_mul_left (by omega : sumL l * sumN (qV t l) l.length ≤ sumL l * t) h
/-- How many coins are left. -/
def leftV (t : Nat) (l : List (BitVec 64)) : Nat := t - sumN (qV t l) l.length
theorem left_eq {t : Nat} {l : List (BitVec 64)} (h : 0 < sumL l) : sumL l * leftV t l = sumN (rV t l) l.length := by
  have h1 := qr_sum t l l.length
  rw [← sumL_all, Nat.mul_comm t] at h1
  have h2 := q_le (t := t) h
  unfold leftV
  rw [Nat.mul_sub]
  omega
theorem sumN_below {f : Nat → Nat} {S n : Nat} (hf : ∀ i, f i < S) (hn : 0 < n) : sumN f n < S * n := by
  induction n with
  | zero => omega
  | succ n ih =>
    have h1 := hf n
    simp only [sumN]
    rw [Nat.mul_add, Nat.mul_one]
    rcases Nat.eq_zero_or_pos n with e | e
    · subst e; simp only [sumN]; omega
    · have := ih e; omega
theorem left_lt {t : Nat} {l : List (BitVec 64)} (h : 0 < sumL l) (hn : 0 < l.length) : leftV t l < l.length := by
  have h1 := left_eq (t := t) h
  have h2 := sumN_below (f := rV t l) (S := sumL l) (fun i => Nat.mod_lt _ h) hn
  rw [← h1] at h2
  exact Nat.lt_of_mul_lt_mul_left h2
theorem q_small {t : Nat} {l : List (BitVec 64)} (h : 0 < sumL l) {i : Nat} (hi : i < l.length) : qV t l i + leftV t l ≤ t := by
  have h1 := sumN_part (qV t l) hi
  have h2 := q_le (t := t) h
  unfold leftV; omega
/-- Who comes ahead: the greater rest, of equal ones the one that stands first. -/
def Tm (r : Nat → Nat) (x y : Nat) : Prop := r y < r x ∨ (r x = r y ∧ x < y)
instance (r : Nat → Nat) (x y : Nat) : Decidable (Tm r x y) := by unfold Tm; infer_instance
theorem Tm_trans (r : Nat → Nat) : ∀ x y z, Tm r x y → Tm r y z → Tm r x z := by intro x y z; unfold Tm; omega
theorem Tm_irr (r : Nat → Nat) (x : Nat) : ¬ Tm r x x := by unfold Tm; omega
theorem Tm_tie (r : Nat → Nat) (x y : Nat) (h : x < y) : (moreL r y x = true → Tm r y x) ∧ (moreL r y x = false → Tm r x y) := by
  unfold moreL Tm
  constructor
  · intro h2; exact .inl (of_decide_eq_true h2)
  · intro h2; have := of_decide_eq_false h2; omega
/-- How many come ahead of a place. -/
def cntM (r : Nat → Nat) (n i : Nat) : Nat := (List.range n).countP (fun k => decide (Tm r k i))
/-- A rank of the places. -/
def RankM (r : Nat → Nat) (n : Nat) (d : Nat → Nat) : Prop := Srt (Tm r) d 0 n ∧ Prm (fun k => k) d 0 n
theorem rankm_prm {r : Nat → Nat} {n : Nat} {d : Nat → Nat} (h : RankM r n d) : (List.map d (List.range n)).Perm (List.range n) := by
  have := h.2
  unfold Prm Go.Stab.piece at this
  simpa [List.range_eq_range'] using this
theorem countP_lt (p n : Nat) (h : p ≤ n) : (List.range n).countP (fun q => decide (q < p)) = p := by
  induction n with
  | zero => have : p = 0 := by omega
            rw [this]; rfl
  | succ n ih =>
    rw [List.range_succ, List.countP_append, List.countP_singleton]
    by_cases e : p = n + 1
    · have : (List.range n).countP (fun q => decide (q < p)) = (List.range n).length := by
        rw [List.countP_eq_length]
        intro a ha
        have := List.mem_range.1 ha
        simp; omega
      rw [this, List.length_range]; simp [e]
    · rw [ih (by omega)]; simp; omega
theorem cntM_pos {r : Nat → Nat} {n : Nat} {d : Nat → Nat} (h : RankM r n d) (p : Nat) (hp : p < n) : cntM r n (d p) = p := by
  unfold cntM
  rw [← (rankm_prm h).countP_eq, List.countP_map]
  rw [← countP_lt p n (by omega)]
  apply List.countP_congr
  intro q hq
  have hq := List.mem_range.1 hq
  rw [countP_lt p n (by omega)]
  show decide (Tm r (d q) (d p)) = true ↔ decide (q < p) = true
  rw [decide_eq_true_iff, decide_eq_true_iff]
  constructor
  · intro ht
    by_cases e : q < p
    · exact e
    · exfalso
      by_cases e2 : q = p
      · subst e2; exact Tm_irr r _ ht
      · exact Tm_irr r _ (Tm_trans r _ _ _ ht (h.1 p q (Nat.zero_le _) (by omega) hq))
  · intro hlt
    exact h.1 q p (Nat.zero_le _) hlt hp
theorem rankm_lt {r : Nat → Nat} {n : Nat} {d : Nat → Nat} (h : RankM r n d) {p : Nat} (hp : p < n) : d p < n := by
  have := (rankm_prm h).mem_iff.1 (List.mem_map.2 ⟨p, List.mem_range.2 hp, rfl⟩)
  exact List.mem_range.1 this
theorem rankm_has {r : Nat → Nat} {n : Nat} {d : Nat → Nat} (h : RankM r n d) (i : Nat) (hi : i < n) : ∃ p, p < n ∧ d p = i := by
  have := (rankm_prm h).mem_iff.2 (List.mem_range.2 hi)
  obtain ⟨p, hp, e⟩ := List.mem_map.1 this
  exact ⟨p, List.mem_range.1 hp, e⟩
/-- The shares when the first j of the rank have one more. -/
def shJ (t : Nat) (l : List (BitVec 64)) (j i : Nat) : Nat := qV t l i + if cntM (rV t l) l.length i < j then 1 else 0
theorem shJ_zero (t : Nat) (l : List (BitVec 64)) : shJ t l 0 = qV t l := by funext i; unfold shJ; rw [if_neg (by omega)]; rfl
/-- A share. -/
def shV (t : Nat) (l : List (BitVec 64)) (i : Nat) : Nat := shJ t l (leftV t l) i
theorem shJ_at {t : Nat} {l : List (BitVec 64)} {d : Nat → Nat} (h : RankM (rV t l) l.length d) (j : Nat) (hj : j < l.length) : shJ t l j (d j) = qV t l (d j) := by
  unfold shJ; rw [cntM_pos h j hj, if_neg (by omega)]; rfl
theorem shJ_step {t : Nat} {l : List (BitVec 64)} {d : Nat → Nat} (h : RankM (rV t l) l.length d) (j : Nat) (hj : j < l.length) (k : Nat) (hk : k < l.length) : upd (shJ t l j) (d j) (qV t l (d j) + 1) k = shJ t l (j + 1) k := by
  unfold upd
  by_cases e : k = d j
  · rw [if_pos e, e]; unfold shJ; rw [cntM_pos h j hj, if_pos (by omega)]
  · rw [if_neg e]
    obtain ⟨p, hp, ep⟩ := rankm_has h k hk
    unfold shJ
    rw [← ep, cntM_pos h p hp]
    have hne : p ≠ j := fun e2 => e (by rw [← ep, e2])
    by_cases c : p < j
    · rw [if_pos c, if_pos (by omega)]
    · rw [if_neg c, if_neg (by omega)]
theorem shV_lt {t : Nat} {l : List (BitVec 64)} (h : 0 < sumL l) {i : Nat} (hi : i < l.length) : shV t l i ≤ t := by
  have := q_small (t := t) h hi
  unfold shV shJ
  split <;> omega
def shL (t : Nat) (l : List (BitVec 64)) : List (BitVec 64) := (List.range l.length).map fun i => BitVec.ofNat 64 (shV t l i)
theorem shL_len (t : Nat) (l : List (BitVec 64)) : (shL t l).length = l.length := by unfold shL; simp
theorem rowQ_vQ {t : Nat} {l : List (BitVec 64)} (h : 0 < sumL l) (ht : t < 18446744073709551616) : rowQ (shV t l) l.length = vQ (shL t l) := by
  unfold rowQ vQ shL
  rw [List.map_map]
  apply List.map_congr_left
  intro i hi
  have hi := List.mem_range.1 hi
  have := shV_lt (t := t) h hi
  show Value.int .u64 ((shV t l i : Nat) : Int) = Value.int .u64 (U64 (BitVec.ofNat 64 (shV t l i)))
  unfold U64
  rw [BitVec.toNat_ofNat, Nat.mod_eq_of_lt (by omega)]
theorem rowQ_congr {c d : Nat → Nat} {n : Nat} (h : ∀ k, k < n → c k = d k) : rowQ c n = rowQ d n := by
  unfold rowQ
  apply List.map_congr_left
  intro k hk
  rw [h k (List.mem_range.1 hk)]
/-- The places, as far as i. -/
def idn (i k : Nat) : Nat := if k < i then k else 0
theorem idn_step (i : Nat) : upd (idn i) i i = idn (i + 1) := by
  funext k; unfold upd idn
  by_cases h : k = i
  · subst h; rw [if_pos rfl, if_pos (by omega)]
  · rw [if_neg h]
    by_cases h2 : k < i
    · rw [if_pos h2, if_pos (by omega)]
    · rw [if_neg h2, if_neg (by omega)]
def cutQ (f : Nat → Nat) (i k : Nat) : Nat := if k < i then f k else 0
theorem cutQ_step (f : Nat → Nat) (i : Nat) : upd (cutQ f i) i (f i) = cutQ f (i + 1) := by
  funext k; unfold upd cutQ
  by_cases h : k = i
  · subst h; rw [if_pos rfl, if_pos (by omega)]
  · rw [if_neg h]
    by_cases h2 : k < i
    · rw [if_pos h2, if_pos (by omega)]
    · rw [if_neg h2, if_neg (by omega)]
theorem rankm_of {r : Nat → Nat} {n : Nat} {d : Nat → Nat} (hs : Srt (Tm r) d 0 n) (hp : Prm (idn n) d 0 n) : RankM r n d := by
  refine ⟨hs, ?_⟩
  unfold Prm at *
  rw [Go.Stab.piece_congr (c := fun k => k) (d := idn n) fun k _ hk => (if_pos hk).symm]
  exact hp
/-- Are there shares? -/
def okS (l : List (BitVec 64)) : Prop := 0 < l.length ∧ l.length ≤ 1024 ∧ 0 < sumL l ∧ sumL l < 18446744073709551616
/-- The error where there are none. -/
def errS (l : List (BitVec 64)) : Int := if l.length = 0 ∨ 1024 < l.length then 2 else if 18446744073709551616 ≤ sumL l then 10 else 2
end Go.Proofs.Ytdkfaicmdbhonaa
