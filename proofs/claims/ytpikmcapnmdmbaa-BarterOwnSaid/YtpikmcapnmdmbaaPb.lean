/-
  Layer 22, no program: the rounds are what they are; nobody does better by going aside.
-/
import Derived.Test.YtpikmcapnmdmbaaWk
namespace Go.Proofs.Ytpikmcapnmdmbaa
open Go.RowKit Go.K
set_option linter.unusedVariables false
set_option linter.unusedSimpArgs false
variable {n : Nat} {f : Nat → Nat} {D : Nat → Bool} {c c' : List Nat}
theorem Ring.step (h : Ring n f D c) {i : Nat} (hi : i ∈ c) : f i ∈ c := by
  obtain ⟨k, hk, rfl⟩ := mem_getD hi
  rw [h.nxt k hk]
  exact getD_mem (Nat.mod_lt _ h.pos)
theorem Ring.itIn (h : Ring n f D c) {i : Nat} (hi : i ∈ c) : ∀ m, it f m i ∈ c
  | 0 => hi
  | m + 1 => by rw [it_succ]; exact h.step (h.itIn hi m)
theorem Ring.itPos (h : Ring n f D c) : ∀ m k, k < c.length → it f m (c.getD k 0) = c.getD ((k + m) % c.length) 0
  | 0, k, hk => by rw [Nat.add_zero, Nat.mod_eq_of_lt hk]; rfl
  | m + 1, k, hk => by
    show it f m (f (c.getD k 0)) = _
    rw [h.nxt k hk, h.itPos m _ (Nat.mod_lt _ h.pos), Nat.mod_add_mod]
    congr 2
    omega
theorem it_add (f : Nat → Nat) : ∀ a b s, it f (a + b) s = it f b (it f a s)
  | 0, b, s => by rw [Nat.zero_add]; rfl
  | a + 1, b, s => by
    rw [Nat.add_right_comm]
    show it f (a + b) (f s) = _
    rw [it_add f a b]
    rfl
theorem Ring.conn (h : Ring n f D c) {i j : Nat} (hi : i ∈ c) (hj : j ∈ c) : ∃ m, it f m i = j := by
  obtain ⟨k, hk, rfl⟩ := mem_getD hi
  obtain ⟨l, hl, rfl⟩ := mem_getD hj
  refine ⟨l + c.length - k, ?_⟩
  rw [h.itPos _ k hk, show k + (l + c.length - k) = l + c.length by omega, Nat.add_mod_right, Nat.mod_eq_of_lt hl]
theorem cyc_unique (h : Cyc n f D c) (h' : Cyc n f D c') : c = c' := by
  obtain ⟨s, hs, hl, hD, k, hk⟩ := h.reach
  obtain ⟨s', hs', hl', hD', k', hk'⟩ := h'.reach
  have e : s = s' := by
    rcases Nat.lt_trichotomy s s' with e | e | e
    · have := hl' s e; rw [hD] at this; cases this
    · exact e
    · have := hl s' e; rw [hD'] at this; cases this
  subst e
  have x1 : it f (k + k') s ∈ c := by rw [it_add]; exact h.toRing.itIn hk k'
  have x2 : it f (k + k') s ∈ c' := by rw [Nat.add_comm, it_add]; exact h'.toRing.itIn hk' k
  have sub1 : ∀ i ∈ c, i ∈ c' := fun i hi => by
    obtain ⟨m, rfl⟩ := h.toRing.conn x1 hi
    exact h'.toRing.itIn x2 m
  have sub2 : ∀ i ∈ c', i ∈ c := fun i hi => by
    obtain ⟨m, rfl⟩ := h'.toRing.conn x2 hi
    exact h.toRing.itIn x1 m
  have e0 : c.getD 0 0 = c'.getD 0 0 := Nat.le_antisymm (h.least _ (sub2 _ (getD_mem h'.pos))) (h'.least _ (sub1 _ (getD_mem h.pos)))
  have g1 : ∀ m, m < c.length → c.getD m 0 = it f m (c.getD 0 0) := fun m hm => by rw [h.toRing.itPos m 0 h.pos, Nat.zero_add, Nat.mod_eq_of_lt hm]
  have g2 : ∀ m, m < c'.length → c'.getD m 0 = it f m (c.getD 0 0) := fun m hm => by rw [e0, h'.toRing.itPos m 0 h'.pos, Nat.zero_add, Nat.mod_eq_of_lt hm]
  have hlen : c.length = c'.length := by
    rcases Nat.lt_trichotomy c.length c'.length with e | e | e
    · exfalso
      have a1 := g2 c.length e
      rw [h.toRing.itPos _ 0 h.pos, Nat.zero_add, Nat.mod_self, e0] at a1
      have := getD_inj h'.nd e h'.pos a1
      have := h.pos
      omega
    · exact e
    · exfalso
      have a1 := g1 c'.length e
      have a2 := h'.toRing.itPos c'.length 0 h'.pos
      rw [Nat.zero_add, Nat.mod_self, ← e0] at a2
      rw [a2] at a1
      have := getD_inj h.nd e h.pos a1
      have := h'.pos
      omega
  apply List.ext_getElem hlen
  intro m h1 h2
  have a1 := g1 m h1
  have a2 := g2 m h2
  rw [List.getD_eq_getElem?_getD, List.getElem?_eq_getElem h1] at a1
  rw [List.getD_eq_getElem?_getD, List.getElem?_eq_getElem h2] at a2
  exact (a1.trans a2.symm)
/-- Who is gone behind the rounds. -/
def dOf (cs : List (List Nat)) : Nat → Bool := cs.foldl gadd (fun _ => false)
theorem dOf_snoc (cs : List (List Nat)) (c : List Nat) : dOf (cs ++ [c]) = gadd (dOf cs) c := by simp [dOf, List.foldl_append]
variable {F : (Nat → Bool) → Nat → Nat} {cs cs' : List (List Nat)} {D' : Nat → Bool}
theorem RunTo.char (h : RunTo n F cs D) : D = dOf cs ∧ ∀ m (hm : m < cs.length), Cyc n (F (dOf (cs.take m))) (dOf (cs.take m)) cs[m] := by
  induction h with
  | nil => exact ⟨rfl, fun m hm => absurd hm (Nat.not_lt_zero m)⟩
  | @snoc cs D c h1 h2 ih =>
    obtain ⟨e, hc⟩ := ih
    refine ⟨by rw [dOf_snoc, e], fun m hm => ?_⟩
    by_cases hlt : m < cs.length
    · rw [List.take_append_of_le_length (by omega), List.getElem_append_left hlt]
      exact hc m hlt
    · have em : m = cs.length := by simp at hm; omega
      subst em
      rw [List.take_left, List.getElem_append_right (Nat.le_refl _)]
      simp only [Nat.sub_self, List.getElem_singleton]
      rw [← e]
      exact h2
theorem run_unique (h : RunTo n F cs D) (h' : RunTo n F cs' D') (ha : ∀ i, i < n → D i = true) (ha' : ∀ i, i < n → D' i = true) : cs = cs' := by
  obtain ⟨e, hc⟩ := h.char
  obtain ⟨e', hc'⟩ := h'.char
  have key : ∀ m, m ≤ cs.length → m ≤ cs'.length → cs.take m = cs'.take m := by
    intro m
    induction m with
    | zero => intro _ _; simp
    | succ m ih =>
      intro h1 h2
      have e1 := ih (by omega) (by omega)
      have c1 := hc m (by omega)
      have c2 := hc' m (by omega)
      rw [← e1] at c2
      rw [List.take_succ_eq_append_getElem (by omega), List.take_succ_eq_append_getElem (by omega), e1, cyc_unique c1 c2]
  rcases Nat.lt_trichotomy cs.length cs'.length with h1 | h1 | h1
  · exfalso
    have e1 := key cs.length (Nat.le_refl _) (by omega)
    rw [List.take_length] at e1
    obtain ⟨s, hs, _, hD, _⟩ := (hc' cs.length h1).reach
    rw [← e1, ← e, ha s hs] at hD
    cases hD
  · have := key cs.length (Nat.le_refl _) (by omega)
    rwa [List.take_length, h1, List.take_length] at this
  · exfalso
    have e1 := key cs'.length (by omega) (Nat.le_refl _)
    rw [List.take_length] at e1
    obtain ⟨s, hs, _, hD, _⟩ := (hc cs'.length h1).reach
    rw [e1, ← e', ha' s hs] at hD
    cases hD
theorem RunTo.gone' (h : RunTo n F cs D) : ∀ i, D i = true → ∃ c ∈ cs, i ∈ c := by
  induction h with
  | nil => intro i hi; cases hi
  | @snoc cs D c h1 h2 ih =>
    intro i hi
    rcases gadd_true.1 hi with e | e
    · obtain ⟨c', hc, hi'⟩ := ih i e
      exact ⟨c', List.mem_append_left _ hc, hi'⟩
    · exact ⟨c, List.mem_append_right _ (List.mem_singleton.2 rfl), e⟩
theorem RunTo.goneT (h : RunTo n F cs D) : ∀ c ∈ cs, ∀ i ∈ c, D i = true := by
  induction h with
  | nil => intro c hc; cases hc
  | snoc h1 h2 ih =>
    intro c hc i hi
    rcases List.mem_append.1 hc with e | e
    · exact gadd_true.2 (.inl (ih c e i hi))
    · rw [List.mem_singleton.1 e] at hi
      exact gadd_true.2 (.inr hi)
theorem RunTo.facts (h : RunTo n F cs D) : ∀ c ∈ cs, 0 < c.length ∧ c.Nodup ∧ ∀ i ∈ c, i < n := by
  induction h with
  | nil => intro c hc; cases hc
  | snoc h1 h2 ih =>
    intro c hc
    rcases List.mem_append.1 hc with e | e
    · exact ih c e
    · rw [List.mem_singleton.1 e]; exact ⟨h2.pos, h2.nd, h2.lt⟩
theorem RunTo.apart (h : RunTo n F cs D) : ∀ c ∈ cs, ∀ c' ∈ cs, ∀ i, i ∈ c → i ∈ c' → c = c' := by
  induction h with
  | nil => intro c hc; cases hc
  | snoc h1 h2 ih =>
    intro c hc c' hc' i hi hi'
    rcases List.mem_append.1 hc with e | e <;> rcases List.mem_append.1 hc' with e' | e'
    · exact ih c e c' e' i hi hi'
    · rw [List.mem_singleton.1 e'] at hi'
      have := h1.goneT c e i hi
      rw [h2.left i hi'] at this
      cases this
    · rw [List.mem_singleton.1 e] at hi
      have := h1.goneT c' e' i hi'
      rw [h2.left i hi] at this
      cases this
    · rw [List.mem_singleton.1 e, List.mem_singleton.1 e']
/-- The next one in the cycle. -/
def nextOf (cs : List (List Nat)) (i : Nat) : Nat := match cs.find? (fun c => decide (i ∈ c)) with
  | some c => c.getD ((c.idxOf i + 1) % c.length) 0
  | none => i
theorem idxOf_getD {c : List Nat} (h : c.Nodup) {k : Nat} (hk : k < c.length) : c.idxOf (c.getD k 0) = k := by
  have hm := getD_mem hk
  have h1 : c.idxOf (c.getD k 0) < c.length := List.idxOf_lt_length_of_mem hm
  refine getD_inj h h1 hk ?_
  rw [List.getD_eq_getElem?_getD, List.getElem?_eq_getElem h1]
  exact List.getElem_idxOf h1
theorem RunTo.next (h : RunTo n F cs D) : ∀ c ∈ cs, ∀ k, k < c.length → nextOf cs (c.getD k 0) = c.getD ((k + 1) % c.length) 0 := by
  intro c hc k hk
  unfold nextOf
  have hm := getD_mem hk
  cases e : cs.find? (fun c' => decide (c.getD k 0 ∈ c')) with
  | none =>
    have := List.find?_eq_none.1 e c hc
    simp only [decide_eq_true_eq] at this
    exact absurd hm this
  | some c' =>
    have h1 := List.mem_of_find?_eq_some e
    have h2 := List.find?_some e
    simp only [decide_eq_true_eq] at h2
    have e2 := h.apart c' h1 c hc _ h2 hm
    subst e2
    simp only
    rw [idxOf_getD (h.facts c' hc).2.1 hk]
end Go.Proofs.Ytpikmcapnmdmbaa
