/-
  Layer 1, plain: the greatest rest, picked again and again, is the rank's next.
-/
import Derived.Test.YtdkfaicmdbhonaaPz
namespace Go.Proofs.Ytdkfaicmdbhonaa
open Go.RowKit Go.K
set_option linter.unusedVariables false
set_option linter.unusedSimpArgs false
theorem countP_ss {p q : Nat → Bool} : ∀ (l : List Nat), (∀ x ∈ l, p x = true → q x = true) → (∃ x ∈ l, q x = true ∧ p x = false) → l.countP p < l.countP q
  | [], _, h => by obtain ⟨x, hx, _⟩ := h; cases hx
  | y :: l, hm, h => by
    have hle : l.countP p ≤ l.countP q := List.countP_mono_left fun x hx => hm x (List.mem_cons_of_mem _ hx)
    obtain ⟨x, hx, hq, hp⟩ := h
    rw [List.countP_cons, List.countP_cons]
    rcases List.mem_cons.1 hx with e | e
    · subst e
      rw [hq, hp]; simp; omega
    · have ih := countP_ss l (fun x hx => hm x (List.mem_cons_of_mem _ hx)) ⟨x, e, hq, hp⟩
      have hy := hm y (List.mem_cons_self ..)
      by_cases c : p y = true
      · rw [c, hy c]; simp; omega
      · have : p y = false := by simpa using c
        rw [this]; simp; split <;> omega
theorem Tm_all (r : Nat → Nat) (x y : Nat) (h : x ≠ y) : Tm r x y ∨ Tm r y x := by unfold Tm; omega
theorem cntM_lt {r : Nat → Nat} {n a b : Nat} (ha : a < n) (h : Tm r a b) : cntM r n a < cntM r n b := by
  unfold cntM
  refine countP_ss _ (fun x _ hx => ?_) ⟨a, List.mem_range.2 ha, decide_eq_true h, decide_eq_false (Tm_irr r a)⟩
  exact decide_eq_true (Tm_trans r _ _ _ (of_decide_eq_true hx) h)
theorem cntM_inj {r : Nat → Nat} {n a b : Nat} (ha : a < n) (hb : b < n) (h : cntM r n a = cntM r n b) : a = b := by
  by_cases e : a = b
  · exact e
  · rcases Tm_all r a b e with t | t
    · have := cntM_lt ha t; omega
    · have := cntM_lt hb t; omega
/-- How many have one more when j have been given. -/
def hasN (r : Nat → Nat) (n j : Nat) : Nat := (List.range n).countP fun k => decide (cntM r n k < j)
theorem hasN_zero (r : Nat → Nat) (n : Nat) : hasN r n 0 = 0 := by
  unfold hasN
  rw [List.countP_eq_zero]
  intro a _
  simp
/-- The greatest of those below i that have none yet. -/
def Bst (r : Nat → Nat) (n j i : Nat) (v : Int) : Prop := (v = -1 ∧ ∀ k, k < i → cntM r n k < j) ∨ ∃ b : Nat, v = b ∧ b < i ∧ j ≤ cntM r n b ∧ ∀ k, k < i → j ≤ cntM r n k → k = b ∨ Tm r b k
theorem bst_zero (r : Nat → Nat) (n j : Nat) : Bst r n j 0 (-1) := .inl ⟨rfl, fun k hk => by omega⟩
theorem bst_has {r : Nat → Nat} {n j i : Nat} {v : Int} (h : Bst r n j i v) (hi : cntM r n i < j) : Bst r n j (i + 1) v := by
  rcases h with ⟨h1, h2⟩ | ⟨b, h1, h2, h3, h4⟩
  · refine .inl ⟨h1, fun k hk => ?_⟩
    by_cases e : k = i
    · rw [e]; exact hi
    · exact h2 k (by omega)
  · refine .inr ⟨b, h1, by omega, h3, fun k hk hj => ?_⟩
    by_cases e : k = i
    · rw [e] at hj; omega
    · exact h4 k (by omega) hj
theorem bst_first {r : Nat → Nat} {n j i : Nat} {v : Int} (h : Bst r n j i v) (hv : v < 0) (hi : j ≤ cntM r n i) : Bst r n j (i + 1) i := by
  rcases h with ⟨h1, h2⟩ | ⟨b, h1, _⟩
  · refine .inr ⟨i, rfl, by omega, hi, fun k hk hj => ?_⟩
    by_cases e : k = i
    · exact .inl e
    · have := h2 k (by omega); omega
  · omega
theorem bst_more {r : Nat → Nat} {n j i b : Nat} (h : Bst r n j i b) (hi : j ≤ cntM r n i) (hr : r b < r i) : Bst r n j (i + 1) i := by
  rcases h with ⟨h1, h2⟩ | ⟨b', h1, h2, h3, h4⟩
  · omega
  · have : b = b' := by omega
    subst this
    refine .inr ⟨i, rfl, by omega, hi, fun k hk hj => ?_⟩
    by_cases e : k = i
    · exact .inl e
    · rcases h4 k (by omega) hj with e2 | e2
      · rw [e2]; exact .inr (.inl hr)
      · exact .inr (Tm_trans r _ _ _ (.inl hr) e2)
theorem bst_less {r : Nat → Nat} {n j i b : Nat} (h : Bst r n j i b) (hr : r i ≤ r b) : Bst r n j (i + 1) b := by
  rcases h with ⟨h1, h2⟩ | ⟨b', h1, h2, h3, h4⟩
  · omega
  · have : b = b' := by omega
    subst this
    refine .inr ⟨b, rfl, by omega, h3, fun k hk hj => ?_⟩
    by_cases e : k = i
    · rw [e]; refine .inr ?_; unfold Tm; omega
    · exact h4 k (by omega) hj
theorem bst_end {r : Nat → Nat} {n j : Nat} {v : Int} (hj : hasN r n j = j) (hn : j < n) (h : Bst r n j n v) : ∃ b : Nat, v = b ∧ b < n ∧ cntM r n b = j := by
  rcases h with ⟨h1, h2⟩ | ⟨b, h1, h2, h3, h4⟩
  · exfalso
    have : hasN r n j = n := by
      unfold hasN
      have h5 : (List.range n).countP (fun k => decide (cntM r n k < j)) = (List.range n).length := by
        rw [List.countP_eq_length]
        intro a ha
        exact decide_eq_true (h2 a (List.mem_range.1 ha))
      rw [h5, List.length_range]
    omega
  · refine ⟨b, h1, h2, ?_⟩
    have e : cntM r n b = hasN r n j := by
      show (List.range n).countP (fun k => decide (Tm r k b)) = _
      unfold hasN
      apply List.countP_congr
      intro k hk
      have hk := List.mem_range.1 hk
      rw [decide_eq_true_iff, decide_eq_true_iff]
      constructor
      · intro ht
        rcases Nat.lt_or_ge (cntM r n k) j with c | c
        · exact c
        · rcases h4 k hk c with e | e
          · subst e; exact absurd ht (Tm_irr r _)
          · exact absurd (Tm_trans r _ _ _ ht e) (Tm_irr r _)
      · intro hc
        have hne : k ≠ b := fun e => by subst e; omega
        rcases Tm_all r k b hne with t | t
        · exact t
        · have := cntM_lt h2 t; omega
    omega
theorem countP_add {p : Nat → Bool} {b : Nat} (hb : p b = false) : ∀ n, (List.range n).countP (fun k => p k || decide (k = b)) = (List.range n).countP p + (if b < n then 1 else 0)
  | 0 => by simp
  | n + 1 => by
    rw [List.range_succ, List.countP_append, List.countP_append, countP_add hb n, List.countP_singleton, List.countP_singleton]
    by_cases e : n = b
    · subst e
      rw [hb]; simp
    · have e2 : decide (n = b) = false := decide_eq_false e
      rw [e2, Bool.or_false]
      generalize (if p n = true then 1 else 0) = z
      by_cases c : b < n
      · rw [if_pos c, if_pos (show b < n + 1 by omega)]; omega
      · rw [if_neg c, if_neg (show ¬ b < n + 1 by omega)]; omega
theorem hasN_step {r : Nat → Nat} {n j b : Nat} (hj : hasN r n j = j) (hb : b < n) (hc : cntM r n b = j) : hasN r n (j + 1) = j + 1 := by
  have h := countP_add (p := fun k => decide (cntM r n k < j)) (b := b) (decide_eq_false (by omega)) n
  rw [if_pos hb] at h
  have e : hasN r n (j + 1) = (List.range n).countP (fun k => decide (cntM r n k < j) || decide (k = b)) := by
    unfold hasN
    apply List.countP_congr
    intro k hk
    have hk := List.mem_range.1 hk
    rw [Bool.or_eq_true, decide_eq_true_iff, decide_eq_true_iff, decide_eq_true_iff]
    constructor
    · intro hl
      by_cases e : k = b
      · exact .inr e
      · refine .inl ?_
        have : cntM r n k ≠ j := fun e2 => e (cntM_inj (r := r) hk hb (by omega))
        omega
    · rintro (hl | hl)
      · omega
      · subst hl; omega
  rw [e, h]
  unfold hasN at hj
  rw [hj]
/-- One more for the place that comes next. -/
theorem shJ_next {t : Nat} {l : List (BitVec 64)} {j b : Nat} (hb : b < l.length) (hc : cntM (rV t l) l.length b = j) (k : Nat) (hk : k < l.length) : upd (shJ t l j) b (qV t l b + 1) k = shJ t l (j + 1) k := by
  unfold upd
  by_cases e : k = b
  · rw [if_pos e, e]; unfold shJ; rw [hc, if_pos (by omega)]
  · rw [if_neg e]
    have : cntM (rV t l) l.length k ≠ j := fun e2 => e (cntM_inj (r := rV t l) hk hb (by omega))
    unfold shJ
    by_cases c : cntM (rV t l) l.length k < j
    · rw [if_pos c, if_pos (by omega)]
    · rw [if_neg c, if_neg (by omega)]
theorem shJ_at2 {t : Nat} {l : List (BitVec 64)} {j b : Nat} (hc : cntM (rV t l) l.length b = j) : shJ t l j b = qV t l b := by unfold shJ; rw [hc, if_neg (by omega)]; rfl
end Go.Proofs.Ytdkfaicmdbhonaa
