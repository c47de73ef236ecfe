/-
  Layer 21: a region that lends more than one contract at once.
-/
import Derived.Test.YtpejcndfplbikaaSt
import Derived.Test.YtpejcndfplbikaaVu
namespace Go.K
open Go.RowKit
set_option linter.unusedVariables false
set_option linter.unusedSimpArgs false
/-- A frame in which the slots ds hold what x says. -/
def putsF (a0 : Act) (ds : List Nat) (x : Nat → Value) : Act := ds.foldl (fun a d => a.put (some d) (x d)) a0
theorem putsF_get (x : Nat → Value) (t : Nat) : ∀ (ds : List Nat) (a0 : Act), (putsF a0 ds x).tmps[t]? = if t ∈ ds ∧ t < a0.tmps.size then some (x t) else a0.tmps[t]?
  | [], a0 => by simp [putsF]
  | d :: ds, a0 => by
    have h := putsF_get x t ds (a0.put (some d) (x d))
    have e : putsF a0 (d :: ds) x = putsF (a0.put (some d) (x d)) ds x := rfl
    rw [e, h]
    have hs : (a0.put (some d) (x d)).tmps.size = a0.tmps.size := by simp [Act.put]
    rw [hs]
    by_cases h1 : t ∈ ds ∧ t < a0.tmps.size
    · rw [if_pos h1, if_pos ⟨List.mem_cons_of_mem _ h1.1, h1.2⟩]
    · rw [if_neg h1]
      by_cases h2 : t = d
      · subst h2
        by_cases h3 : t < a0.tmps.size
        · rw [if_pos ⟨List.mem_cons_self .., h3⟩]; simp [Act.put, h3]
        · rw [if_neg (fun h => h3 h.2)]; simp [Act.put, h3]
      · have h3 : ¬ (t ∈ d :: ds ∧ t < a0.tmps.size) := fun h => h1 ⟨(List.mem_cons.1 h.1).resolve_left h2, h.2⟩
        rw [if_neg h3]
        simp [Act.put, Array.getElem?_setIfInBounds_ne (fun e => h2 e.symm)]
theorem putsF_size (x : Nat → Value) : ∀ (ds : List Nat) (a0 : Act), (putsF a0 ds x).tmps.size = a0.tmps.size
  | [], a0 => rfl
  | d :: ds, a0 => by
    have e : putsF a0 (d :: ds) x = putsF (a0.put (some d) (x d)) ds x := rfl
    rw [e, putsF_size x ds]; simp [Act.put]
theorem putsF_defers (x : Nat → Value) : ∀ (ds : List Nat) (a0 : Act), (putsF a0 ds x).defers = a0.defers
  | [], a0 => rfl
  | d :: ds, a0 => by
    have e : putsF a0 (d :: ds) x = putsF (a0.put (some d) (x d)) ds x := rfl
    rw [e, putsF_defers x ds]; simp [Act.put]
def upd (x : Nat → Value) (d : Nat) (v : Value) : Nat → Value := fun t => if t = d then v else x t
theorem putsF_put (a0 : Act) (ds : List Nat) (x : Nat → Value) (d : Nat) (v : Value) (hd : d ∈ ds) : (putsF a0 ds x).put (some d) v = putsF a0 ds (upd x d v) := by
  have h1 : ((putsF a0 ds x).put (some d) v).tmps = (putsF a0 ds (upd x d v)).tmps := by
    apply Array.ext_getElem?
    intro t
    rw [putsF_get]
    by_cases h2 : t = d
    · subst h2
      by_cases h3 : t < a0.tmps.size
      · rw [if_pos ⟨hd, h3⟩]
        have : t < (putsF a0 ds x).tmps.size := by rw [putsF_size]; exact h3
        simp [Act.put, this, upd]
      · rw [if_neg (fun h => h3 h.2)]
        have : ¬ t < (putsF a0 ds x).tmps.size := by rw [putsF_size]; exact h3
        simp [Act.put, this]
        omega
    · have e : ((putsF a0 ds x).put (some d) v).tmps[t]? = (putsF a0 ds x).tmps[t]? := by simp [Act.put, Array.getElem?_setIfInBounds_ne (fun e => h2 e.symm)]
      rw [e, putsF_get]
      simp [upd, h2]
  have h2 : ((putsF a0 ds x).put (some d) v).defers = (putsF a0 ds (upd x d v)).defers := by
    rw [putsF_defers]; simp [Act.put, putsF_defers]
  cases hA : (putsF a0 ds x).put (some d) v
  cases hB : putsF a0 ds (upd x d v)
  rw [hA, hB] at h1 h2
  simp only at h1 h2
  rw [h1, h2]
theorem putsF_eval (a0 : Act) (ds : List Nat) (x : Nat → Value) (t : Nat) (ht : t < a0.tmps.size) : (putsF a0 ds x).eval (.tmp t) = if t ∈ ds then x t else a0.eval (.tmp t) := by
  have h := putsF_get x t ds a0
  simp only [Act.eval]
  by_cases h1 : t ∈ ds
  · rw [if_pos ⟨h1, ht⟩] at h
    rw [if_pos h1]
    simp [Array.getD_eq_getD_getElem?, h]
  · rw [if_neg (fun h => h1 h.1)] at h
    rw [if_neg h1]
    simp [Array.getD_eq_getD_getElem?, h]
/-- Each thing that has come up lies in a piece of memory of its own. -/
structure Pieces (w0 : World) (f : Nat → Bool) (R : Nat → Nat × Nat) (w : World) : Prop where
  bel : Below w0.heap.size w0 w
  in' : ∀ q, f q = true → w0.heap.size ≤ (R q).1 ∧ (R q).2 ≤ w.heap.size
  off : ∀ q r, q ≠ r → f q = true → f r = true → (R q).2 ≤ (R r).1 ∨ (R r).2 ≤ (R q).1
theorem Pieces.step {w0 w w' : World} {f : Nat → Bool} {R : Nat → Nat × Nat} {i : Nat} (h : Pieces w0 f R w) (hb : Below w.heap.size w w') :
    Pieces w0 (fun j => if j = i then true else f j) (fun j => if j = i then (w.heap.size, w'.heap.size) else R j) w' := by
  refine ⟨h.bel.trans (hb.mono h.bel.size), fun q hq => ?_, fun q r hne hq hr => ?_⟩
  · by_cases e : q = i
    · simp only [e, if_true]; exact ⟨h.bel.size, Nat.le_refl _⟩
    · simp only [if_neg e] at hq ⊢
      have := h.in' q hq; have := hb.size; omega
  · by_cases e : q = i
    · have e2 : r ≠ i := fun e2 => hne (e.trans e2.symm)
      simp only [if_neg e2] at hr
      simp only [e, if_true, if_neg e2]
      exact .inr (h.in' r hr).2
    · by_cases e2 : r = i
      · simp only [if_neg e] at hq
        simp only [e2, if_true, if_neg e]
        exact .inl (h.in' q hq).2
      · simp only [if_neg e, if_neg e2] at hq hr ⊢
        exact h.off q r hne hq hr
/-- A region of which each operation below p makes one thing, in a slot of its own. -/
theorem wp_region_items {P : Program} {Q : Exit → Act → World → Prop} {id : Nat} {l : List Oper} {a0 : Act} {w0 : World} (p : Nat) (slot : Nat → Nat) (ds : List Nat) (F : Nat → Value → Nat × Nat → World → Prop)
    (hm : P.follows .mixedOrders = true) (hF : stateB l.toArray p = true) (hds : ∀ i, i < p → slot i ∈ ds) (hinj : ∀ i j, i < p → j < p → slot i = slot j → i = j)
    (mono : ∀ i v r w w', F i v r w → Below w.heap.size w w' → F i v r w')
    (hop : ∀ i f x R w o, i < p → Pieces w0 f R w → (∀ j, j < p → f j = true → F j (x (slot j)) (R j) w) → l[i]? = some o → (∀ e ∈ o.after, Region.binds .any e = true → f e.on = true) →
      ∀ K : Act → World → Prop, (∀ v w', Below w.heap.size w w' → F i v (w.heap.size, w'.heap.size) w' → K ((putsF a0 ds x).put (some (slot i)) v) w') → wpOp P l.toArray Q i K (putsF a0 ds x) w)
    (hend : ∀ x R w, Pieces w0 (fun j => decide (j < p)) R w → (∀ i, i < p → F i (x (slot i)) (R i) w) → wpList P l.toArray Q (l.drop p) (putsF a0 ds x) w)
    (x0 : Nat → Value) (hx0 : a0 = putsF a0 ds x0) : (Code.region id l.toArray true).wp P Q a0 w0 := by
  refine wp_region_state p (fun f a w => ∃ x R, a = putsF a0 ds x ∧ Pieces w0 f R w ∧ (∀ q, p ≤ q → f q = false) ∧ ∀ i, i < p → f i = true → F i (x (slot i)) (R i) w) hm hF
    ⟨x0, fun _ => (0, 0), hx0, ⟨(Qt.drewN w0 1).below _, (fun q h => Bool.noConfusion h), (fun q r _ h => Bool.noConfusion h)⟩, fun _ _ => rfl, fun i _ h => Bool.noConfusion h⟩ ?_ ?_
  · rintro f a w i o ⟨x, R, rfl, hP, htl, hall⟩ ho hip hfi hdep
    refine hop i f x R w o hip hP hall ho hdep _ (fun v w' hb hFi => ?_)
    refine ⟨upd x (slot i) v, fun j => if j = i then (w.heap.size, w'.heap.size) else R j, putsF_put a0 ds x (slot i) v (hds i hip), hP.step hb, fun q hq => by show (if q = i then true else f q) = false; rw [if_neg (by omega)]; exact htl q hq, fun j hj hfj => ?_⟩
    have hfj : (if j = i then true else f j) = true := hfj
    show F j (upd x (slot i) v (slot j)) (if j = i then (w.heap.size, w'.heap.size) else R j) w'
    by_cases e : j = i
    · subst e
      simp only [if_true, upd]
      exact hFi
    · rw [if_neg e] at hfj
      have : slot j ≠ slot i := fun h => e (hinj j i hj hip h)
      simp only [if_neg e, upd, if_neg this]
      exact mono j _ _ w w' (hall j hj hfj) hb
  · rintro f a w ⟨x, R, rfl, hP, htl, hall⟩ hl
    have hf : f = fun j => decide (j < p) := by
      funext j
      by_cases h : j < p
      · rw [hl j h]; simp [h]
      · rw [htl j (by omega)]; simp [h]
    subst hf
    exact hend x R w hP (fun i hi => hall i hi (by simp [hi]))
end Go.K
