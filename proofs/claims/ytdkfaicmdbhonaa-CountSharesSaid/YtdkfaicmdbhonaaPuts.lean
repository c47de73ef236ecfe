/-
  A frame by its slots; which operations of a region wait on which. The same text for every seat (no program in it).
-/
import Derived.Test.YtdkfaicmdbhonaaState
namespace Go.K
open Go.RowKit
set_option linter.unusedVariables false
set_option linter.unusedSimpArgs false
/-- A frame in which the slots ds hold what x says. -/
def putsF (a0 : Act) (ds : List Nat) (x : Nat → Value) : Act := ds.foldl (fun a d => a.put (some d) (x d)) a0
theorem putsF_get (x : Nat → Value) (t : Nat) : ∀ (ds : List Nat) (a0 : Act), (putsF a0 ds x).tmps[t]? = if t ∈ ds ∧ t < a0.tmps.size then some (x t) else a0.tmps[t]?
  | [], a0 => by simp [putsF]
  | d :: ds, a0 => by
    have h := putsF_get x t ds (a0.put (some d) (x d))
    have e : putsF a0 (d :: ds) x = putsF (a0.put (some d) (x d)) ds x := rfl
    rw [e, h]
    have hs : (a0.put (some d) (x d)).tmps.size = a0.tmps.size := by simp [Act.put]
    rw [hs]
    by_cases h1 : t ∈ ds ∧ t < a0.tmps.size
    · rw [if_pos h1, if_pos ⟨List.mem_cons_of_mem _ h1.1, h1.2⟩]
    · rw [if_neg h1]
      by_cases h2 : t = d
      · subst h2
        by_cases h3 : t < a0.tmps.size
        · rw [if_pos ⟨List.mem_cons_self .., h3⟩]; simp [Act.put, h3]
        · rw [if_neg (fun h => h3 h.2)]; simp [Act.put, h3]
      · have h3 : ¬ (t ∈ d :: ds ∧ t < a0.tmps.size) := fun h => h1 ⟨(List.mem_cons.1 h.1).resolve_left h2, h.2⟩
        rw [if_neg h3]
        simp [Act.put, Array.getElem?_setIfInBounds_ne (fun e => h2 e.symm)]
theorem putsF_size (x : Nat → Value) : ∀ (ds : List Nat) (a0 : Act), (putsF a0 ds x).tmps.size = a0.tmps.size
  | [], a0 => rfl
  | d :: ds, a0 => by
    have e : putsF a0 (d :: ds) x = putsF (a0.put (some d) (x d)) ds x := rfl
    rw [e, putsF_size x ds]; simp [Act.put]
theorem putsF_defers (x : Nat → Value) : ∀ (ds : List Nat) (a0 : Act), (putsF a0 ds x).defers = a0.defers
  | [], a0 => rfl
  | d :: ds, a0 => by
    have e : putsF a0 (d :: ds) x = putsF (a0.put (some d) (x d)) ds x := rfl
    rw [e, putsF_defers x ds]; simp [Act.put]
def updV (x : Nat → Value) (d : Nat) (v : Value) : Nat → Value := fun t => if t = d then v else x t
theorem putsF_put (a0 : Act) (ds : List Nat) (x : Nat → Value) (d : Nat) (v : Value) (hd : d ∈ ds) : (putsF a0 ds x).put (some d) v = putsF a0 ds (updV x d v) := by
  have h1 : ((putsF a0 ds x).put (some d) v).tmps = (putsF a0 ds (updV x d v)).tmps := by
    apply Array.ext_getElem?
    intro t
    rw [putsF_get]
    by_cases h2 : t = d
    · subst h2
      by_cases h3 : t < a0.tmps.size
      · rw [if_pos ⟨hd, h3⟩]
        have : t < (putsF a0 ds x).tmps.size := by rw [putsF_size]; exact h3
        simp [Act.put, this, updV]
      · rw [if_neg (fun h => h3 h.2)]
        have : ¬ t < (putsF a0 ds x).tmps.size := by rw [putsF_size]; exact h3
        simp [Act.put, this]
        omega
    · have e : ((putsF a0 ds x).put (some d) v).tmps[t]? = (putsF a0 ds x).tmps[t]? := by simp [Act.put, Array.getElem?_setIfInBounds_ne (fun e => h2 e.symm)]
      rw [e, putsF_get]
      simp [updV, h2]
  have h2 : ((putsF a0 ds x).put (some d) v).defers = (putsF a0 ds (updV x d v)).defers := by
    rw [putsF_defers]; simp [Act.put, putsF_defers]
  cases hA : (putsF a0 ds x).put (some d) v
  cases hB : putsF a0 ds (updV x d v)
  rw [hA, hB] at h1 h2
  simp only at h1 h2
  rw [h1, h2]
theorem putsF_eval (a0 : Act) (ds : List Nat) (x : Nat → Value) (t : Nat) (ht : t < a0.tmps.size) : (putsF a0 ds x).eval (.tmp t) = if t ∈ ds then x t else a0.eval (.tmp t) := by
  have h := putsF_get x t ds a0
  simp only [Act.eval]
  by_cases h1 : t ∈ ds
  · rw [if_pos ⟨h1, ht⟩] at h
    rw [if_pos h1]
    simp [Array.getD_eq_getD_getElem?, h]
  · rw [if_neg (fun h => h1 h.1)] at h
    rw [if_neg h1]
    simp [Array.getD_eq_getD_getElem?, h]
/-- Which operations wait on which. -/
def depB (l : List Oper) (ds : List (Nat × Nat)) : Bool := ds.all fun q => match l[q.1]? with | some o => waitsOn o q.2 | none => false
theorem depB_spec {l : List Oper} {ds : List (Nat × Nat)} (h : depB l ds = true) {i j : Nat} (hm : (i, j) ∈ ds) {o : Oper} (ho : l[i]? = some o) {f : Nat → Bool} (hdep : ∀ e ∈ o.after, Region.binds .any e = true → f e.on = true) : f j = true := by
  have h1 := List.all_eq_true.1 h _ hm
  simp only [ho] at h1
  unfold waitsOn at h1
  rw [Array.any_eq_true'] at h1
  obtain ⟨e, he, h2⟩ := h1
  simp only [Bool.and_eq_true, beq_iff_eq] at h2
  rw [← h2.2]
  exact hdep e he h2.1
theorem putsF_self (a0 : Act) (ds : List Nat) : a0 = putsF a0 ds (fun t => a0.tmps.getD t undef) := by
  have h1 : a0.tmps = (putsF a0 ds (fun t => a0.tmps.getD t undef)).tmps := by
    apply Array.ext_getElem?
    intro t
    rw [putsF_get]
    split
    · rename_i h
      simp [Array.getD_eq_getD_getElem?, Array.getElem?_eq_getElem h.2]
    · rfl
  have h2 : a0.defers = (putsF a0 ds (fun t => a0.tmps.getD t undef)).defers := (putsF_defers _ _ _).symm
  generalize putsF a0 ds (fun t => a0.tmps.getD t undef) = b at h1 h2
  cases a0
  cases b
  simp only at h1 h2
  rw [h1, h2]
end Go.K
