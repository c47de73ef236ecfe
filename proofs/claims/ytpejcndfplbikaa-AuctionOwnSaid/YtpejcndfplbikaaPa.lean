/-
  Layer 21: who wins and what it pays, what an end gives out; plain laws.
-/
import Derived.Test.YtpejcndfplbikaaVd
namespace Go.Proofs.Ytpejcndfplbikaa
open Go.RowKit Go.K
set_option linter.unusedVariables false
set_option linter.unusedSimpArgs false
/-- What an entry says. -/
abbrev DE := Int × Int × Int × Int × List Int
def dz : DE := (0, 0, 0, 0, [])
def dA (l : List DE) (i : Nat) : Int := (l.getD i dz).1
def dI (l : List DE) (i : Nat) : Int := (l.getD i dz).2.1
def dC (l : List DE) (i : Nat) : Int := (l.getD i dz).2.2.1
theorem getD_ent (es : List Ent) (i : Nat) (h : i < es.length) : (es.map Ent.d).getD i dz = es[i].d := by
  simp [List.getD, List.getElem?_map, List.getElem?_eq_getElem h]
theorem dA_ent (es : List Ent) (i : Nat) (h : i < es.length) : dA (es.map Ent.d) i = es[i].acc := by unfold dA; rw [getD_ent es i h]; rfl
theorem dI_ent (es : List Ent) (i : Nat) (h : i < es.length) : dI (es.map Ent.d) i = es[i].item := by unfold dI; rw [getD_ent es i h]; rfl
theorem dC_ent (es : List Ent) (i : Nat) (h : i < es.length) : dC (es.map Ent.d) i = es[i].coins := by unfold dC; rw [getD_ent es i h]; rfl
/-- Is a bid too little? -/
def lowV (k r s : Int) (l : List DE) (x : Int) : Bool :=
  if k = 3 then x == 0 else if x < r then true else if l.length ≤ 1 then false else decide (x < dC l (l.length - 1)) || decide (x - dC l (l.length - 1) < s)
/-- The best of the bids 1 .. n - 1 that are r or more; the first of them. -/
def bst (r : Int) (C : Nat → Int) : Nat → Nat
  | 0 => 0
  | k + 1 => if 1 ≤ k ∧ C k ≥ r ∧ (bst r C k = 0 ∨ C k > C (bst r C k)) then k else bst r C k
/-- The most of r and the bids 1 .. n - 1 but that of number w. -/
def pay (r : Int) (C : Nat → Int) (w : Nat) : Nat → Int
  | 0 => r
  | k + 1 => if 1 ≤ k ∧ k ≠ w then max (pay r C w k) (C k) else pay r C w k
def Best (r : Int) (C : Nat → Int) (n b : Nat) : Prop := (b = 0 ∧ ∀ i, 1 ≤ i → i < n → C i < r) ∨ (1 ≤ b ∧ b < n ∧ C b ≥ r ∧ ∀ k, 1 ≤ k → k < n → C k ≤ C b ∧ (C k = C b → b ≤ k))
theorem bst_best (r : Int) (C : Nat → Int) (n : Nat) : Best r C n (bst r C n) := by
  induction n with
  | zero => exact .inl ⟨rfl, fun i _ h => by omega⟩
  | succ n ih =>
    simp only [bst]
    split
    next h =>
      obtain ⟨h1, h2, h3⟩ := h
      refine .inr ⟨h1, by omega, h2, fun k hk hkn => ?_⟩
      rcases ih with ⟨_, hlow⟩ | ⟨hb1, hb2, hb3, hb4⟩
      · by_cases e : k = n
        · subst e; exact ⟨Int.le_refl _, fun _ => Nat.le_refl _⟩
        · have := hlow k hk (by omega); exact ⟨by omega, fun _ => by omega⟩
      · by_cases e : k = n
        · subst e; exact ⟨Int.le_refl _, fun _ => Nat.le_refl _⟩
        · have := (hb4 k hk (by omega)).1
          rcases h3 with h3 | h3
          · omega
          · exact ⟨by omega, fun _ => by omega⟩
    next h =>
      rcases ih with ⟨hb, hlow⟩ | ⟨hb1, hb2, hb3, hb4⟩
      · refine .inl ⟨hb, fun i hi hin => ?_⟩
        by_cases e : i = n
        · subst e
          exact Classical.byContradiction fun hc => h ⟨hi, by omega, .inl hb⟩
        · exact hlow i hi (by omega)
      · refine .inr ⟨hb1, by omega, hb3, fun k hk hkn => ?_⟩
        by_cases e : k = n
        · subst e
          by_cases hr : C k ≥ r
          · have : ¬ C k > C (bst r C k) := fun hc => h ⟨hk, hr, .inr hc⟩
            exact ⟨by omega, fun _ => by omega⟩
          · exact ⟨by omega, fun _ => by omega⟩
        · exact hb4 k hk (by omega)
theorem best_unique {r : Int} {C : Nat → Int} {n a b : Nat} (ha : Best r C n a) (hb : Best r C n b) : a = b := by
  rcases ha with ⟨a0, al⟩ | ⟨a1, a2, a3, a4⟩ <;> rcases hb with ⟨b0, bl⟩ | ⟨b1, b2, b3, b4⟩
  · omega
  · have := al b b1 b2; omega
  · have := bl a a1 a2; omega
  · have h1 := a4 b b1 b2
    have h2 := b4 a a1 a2
    have := h1.2 (by omega)
    have := h2.2 (by omega)
    omega
theorem pay_ge (r : Int) (C : Nat → Int) (w n : Nat) : r ≤ pay r C w n ∧ ∀ k, 1 ≤ k → k < n → k ≠ w → C k ≤ pay r C w n := by
  induction n with
  | zero => exact ⟨Int.le_refl _, fun k _ h => by omega⟩
  | succ n ih =>
    simp only [pay]
    split
    next h =>
      refine ⟨by omega, fun k hk hkn hw => ?_⟩
      by_cases e : k = n
      · subst e; omega
      · have := ih.2 k hk (by omega) hw; omega
    next h =>
      refine ⟨ih.1, fun k hk hkn hw => ?_⟩
      by_cases e : k = n
      · subst e; exact absurd ⟨hk, hw⟩ h
      · exact ih.2 k hk (by omega) hw
theorem pay_le (r : Int) (C : Nat → Int) (w n : Nat) (m : Int) (hr : r ≤ m) (hC : ∀ k, 1 ≤ k → k < n → k ≠ w → C k ≤ m) : pay r C w n ≤ m := by
  induction n with
  | zero => exact hr
  | succ n ih =>
    have := ih (fun k h1 h2 h3 => hC k h1 (by omega) h3)
    simp only [pay]
    split
    next h => have := hC n h.1 (by omega) h.2; omega
    next h => exact this
/-- Who wins, and what it pays; 0: nobody does. -/
def winV (k r : Int) (l : List DE) : Nat × Int :=
  if (k = 2 ∨ k = 3) ∧ 2 ≤ l.length then (if k = 2 then (l.length - 1, dC l (l.length - 1)) else (bst r (dC l) l.length, pay r (dC l) (bst r (dC l) l.length) l.length)) else (0, 0)
/-- What the first n entries give out. -/
def backP (l : List DE) : Nat → List Gi
  | 0 => []
  | k + 1 => backP l k ++ giveL (dA l k) (dI l k) (dC l k)
def endS (l : List DE) (w : Nat) (p : Int) (k : Nat) : List Gi :=
  if k = 0 then giveL (dA l w) (dI l 0) 0 ++ giveL (dA l 0) 0 (dC l 0) else if k = w then giveL (dA l w) (dI l w) 0 ++ giveL (dA l 0) 0 p ++ giveL (dA l w) 0 (IntKind.u64.wrap (dC l w - p)) else giveL (dA l k) (dI l k) (dC l k)
def endP (l : List DE) (w : Nat) (p : Int) : Nat → List Gi
  | 0 => []
  | k + 1 => endP l w p k ++ endS l w p k
def endL (k r : Int) (l : List DE) : List Gi := if (winV k r l).1 = 0 then backP l l.length else endP l (winV k r l).1 (winV k r l).2 l.length
theorem backP_le (l : List DE) (n : Nat) : (backP l n).length ≤ 2 * n := by
  induction n with
  | zero => exact Nat.le_refl _
  | succ n ih => simp only [backP, List.length_append]; have := giveL_le (dA l n) (dI l n) (dC l n); omega
theorem endS_le (l : List DE) (w : Nat) (p : Int) (k : Nat) : (endS l w p k).length ≤ 6 := by
  unfold endS
  split
  · rw [List.length_append]; have := giveL_le (dA l w) (dI l 0) 0; have := giveL_le (dA l 0) 0 (dC l 0); omega
  · split
    · simp only [List.length_append]; have := giveL_le (dA l w) (dI l w) 0; have := giveL_le (dA l 0) 0 p; have := giveL_le (dA l w) 0 (IntKind.u64.wrap (dC l w - p)); omega
    · have := giveL_le (dA l k) (dI l k) (dC l k); omega
theorem giveL_one (t i c : Int) (h : i = 0 ∨ c = 0) : (giveL t i c).length ≤ 1 := by
  unfold giveL; rcases h with h | h <;> subst h <;> simp <;> split <;> simp
/-- An end gives no more than two gifts for an entry, and one more. -/
theorem endP_le (l : List DE) (w : Nat) (p : Int) (n : Nat) : (endP l w p n).length ≤ 2 * n + (if w < n then 1 else 0) := by
  induction n with
  | zero => simp [endP]
  | succ n ih =>
    simp only [endP, List.length_append]
    have hS : (endS l w p n).length ≤ 2 + (if n = w then 1 else 0) := by
      unfold endS
      split
      · rw [List.length_append]; have := giveL_one (dA l w) (dI l 0) 0 (.inr rfl); have := giveL_one (dA l 0) 0 (dC l 0) (.inl rfl); omega
      · split
        · simp only [List.length_append]; have := giveL_one (dA l w) (dI l w) 0 (.inr rfl); have := giveL_one (dA l 0) 0 p (.inl rfl); have := giveL_one (dA l w) 0 (IntKind.u64.wrap (dC l w - p)) (.inl rfl); simp [*]; omega
        · have := giveL_le (dA l n) (dI l n) (dC l n); omega
    split <;> split at ih <;> split at hS <;> omega
end Go.Proofs.Ytpejcndfplbikaa
