/-
  A region that draws its order, by a condition on what has come up so far (which operations, the frame, the world): each operation that may come up next keeps it; behind all of the first p the tail is walked as it stands. The same text for every seat (no program in it).
-/
import Derived.Test.YtdkfaicmdbhonaaFront
namespace Go.K
open Go.RowKit
set_option linter.unusedVariables false
set_option linter.unusedSimpArgs false
section
variable {P : Program} {ops : Array Oper} {Q : Exit → Act → World → Prop}
/-- Whatever has come up, what it waits on has come up too. -/
def Closed (ops : Array Oper) (listed : Array Bool) : Prop := ∀ i o, ops[i]? = some o → listed.getD i false = true → ∀ e ∈ o.after, Region.binds .any e = true → listed.getD e.on false = true
/-- What an operation waits on, n steps far. -/
def depsOf (ops : Array Oper) : Nat → Nat → List Nat
  | 0, _ => []
  | n + 1, i => match ops[i]? with
    | none => []
    | some o => (o.after.toList.filter (Region.binds .any)).flatMap fun e => e.on :: depsOf ops n e.on
theorem depsOf_listed {listed : Array Bool} (hc : Closed ops listed) : ∀ (n i : Nat), (∀ o, ops[i]? = some o → ∀ e ∈ o.after, Region.binds .any e = true → listed.getD e.on false = true) → ∀ j ∈ depsOf ops n i, listed.getD j false = true := by
  intro n
  induction n with
  | zero => intro i _ j hj; cases hj
  | succ n ih =>
    intro i hi j hj
    unfold depsOf at hj
    cases ho : ops[i]? with
    | none => rw [ho] at hj; cases hj
    | some o =>
      rw [ho] at hj
      obtain ⟨e, he, hj⟩ := List.mem_flatMap.1 hj
      obtain ⟨he1, he2⟩ := List.mem_filter.1 he
      have hl := hi o ho e (by simpa using he1) he2
      rcases List.mem_cons.1 hj with h | h
      · rw [h]; exact hl
      · exact ih e.on (fun o' ho' e' he' hb' => hc e.on o' ho' hl e' he' hb') j h
/-- What is looked at once, by the kernel: edges go back; the tail's first waits, near or far, on all before it; each later one on the one before it. -/
def stateB (ops : Array Oper) (p : Nat) : Bool :=
  decide (p ≤ ops.size) && (List.range ops.size).all fun i => match ops[i]? with
    | none => false
    | some o => (o.after.all fun e => !Region.binds .any e || decide (e.on < i)) && (decide (i ≤ p) || waitsOn o (i - 1)) && (decide (i ≠ p) || (List.range p).all fun j => (depsOf ops p p).contains j)
theorem stateB_spec {p : Nat} (h : stateB ops p = true) : p ≤ ops.size ∧ (∀ i o, ops[i]? = some o → ∀ e ∈ o.after, Region.binds .any e = true → e.on < i) ∧
    (∀ i o, ops[i]? = some o → p < i → waitsOn o (i - 1) = true) ∧ (p < ops.size → ∀ j, j < p → j ∈ depsOf ops p p) := by
  unfold stateB at h
  simp only [Bool.and_eq_true, decide_eq_true_eq, List.all_eq_true, List.mem_range] at h
  obtain ⟨h3, h4⟩ := h
  refine ⟨h3, ?_, ?_, ?_⟩
  · intro i o ho e he hb
    have := h4 i (Array.getElem?_eq_some_iff.1 ho).1
    rw [ho] at this
    simp only [Bool.and_eq_true, Array.all_eq_true_iff_forall_mem, Bool.or_eq_true, Bool.not_eq_true', decide_eq_true_eq] at this
    exact (this.1.1 e he).resolve_left (by simp [hb])
  · intro i o ho hmi
    have := h4 i (Array.getElem?_eq_some_iff.1 ho).1
    rw [ho] at this
    simp only [Bool.and_eq_true, Bool.or_eq_true, decide_eq_true_eq] at this
    exact this.1.2.resolve_left (by omega)
  · intro hp j hj
    have := h4 p hp
    rw [Array.getElem?_eq_getElem hp] at this
    simp only [Bool.and_eq_true, Bool.or_eq_true, decide_eq_true_eq, List.all_eq_true, List.mem_range] at this
    have h5 := this.2.resolve_left (by simp) j hj
    simpa using h5
theorem st_tail {p : Nat} (hF : stateB ops p = true) : ∀ (d k fuel : Nat) (listed : Array Bool) (a : Act) (w : World), p ≤ k → k + d = ops.size → listed.size = ops.size → (∀ j, j < ops.size → listed.getD j true = decide (j < k)) →
    wpOps P ops Q (List.range' k d) a w → d ≤ fuel → wpAny P .any ops Q fuel listed a w := by
  obtain ⟨hpm, hdn, hch, hdp⟩ := stateB_spec hF
  intro d
  induction d with
  | zero =>
    intro k fuel listed a w hk hd hsz hl h _
    have hr : Region.ready .any ops listed = [] := by
      rw [List.eq_nil_iff_forall_not_mem]
      intro i hi
      obtain ⟨h0, o, ho, _⟩ := mem_ready.1 hi
      have hi' := (Array.getElem?_eq_some_iff.1 ho).1
      rw [hl i hi'] at h0
      simp at h0; omega
    cases fuel with
    | zero => exact ⟨hr, h⟩
    | succ fuel => exact ⟨fun _ => h, fun i hi => by rw [hr] at hi; cases hi⟩
  | succ d ih =>
    intro k fuel listed a w hk hd hsz hl h hf
    have hkn : k < ops.size := by omega
    have hnot : ∀ j, j < ops.size → listed.getD j false = decide (j < k) := by
      intro j hj
      have := hl j hj
      have hj' : j < listed.size := by omega
      simp [hj'] at this ⊢
      exact this
    cases fuel with
    | zero => omega
    | succ fuel =>
      have hkr : k ∈ Region.ready .any ops listed := by
        refine mem_ready.2 ⟨by rw [hl k hkn]; simp, ops[k], Array.getElem?_eq_getElem hkn, fun e he hb => ?_⟩
        have := hdn k _ (Array.getElem?_eq_getElem hkn) e he hb
        rw [hnot _ (by omega)]; simpa using this
      refine ⟨fun h0 => (by rw [h0] at hkr; cases hkr), fun i hi => ?_⟩
      obtain ⟨h0, o, ho, hall⟩ := mem_ready.1 hi
      have hin := (Array.getElem?_eq_some_iff.1 ho).1
      rw [hl i hin] at h0
      have hik : k ≤ i := by simpa using h0
      have : i = k := by
        rcases Nat.lt_or_eq_of_le hik with hlt | he
        · exfalso
          have := waits_listed (hch i o ho (by omega)) hall
          rw [hnot _ (by omega)] at this; simp at this; omega
        · exact he.symm
      subst this
      rw [List.range'_succ, wpOps_cons] at h
      refine wpOp_mono (fun a' w' h' => ih (i + 1) fuel _ a' w' (by omega) (by omega) (by simpa using hsz) (fun j hj => ?_) h' (by omega)) h
      by_cases e : i = j
      · subst e
        have : i < listed.size := by omega
        simp [this]
      · rw [getD_set_ne true e, hl j hj]
        congr 1
        apply propext; omega
theorem any_state {p : Nat} (hF : stateB ops p = true) (I : (Nat → Bool) → Act → World → Prop)
    (hstep : ∀ f a w i o, I f a w → ops[i]? = some o → i < p → f i = false → (∀ e ∈ o.after, Region.binds .any e = true → f e.on = true) → wpOp P ops Q i (fun a' w' => I (fun j => if j = i then true else f j) a' w') a w)
    (hend : ∀ f a w, I f a w → (∀ i, i < p → f i = true) → wpOps P ops Q (List.range' p (ops.size - p)) a w) :
    ∀ (n fuel : Nat) (listed : Array Bool) (f : Nat → Bool) (a : Act) (w : World), I f a w → (∀ i, i < ops.size → listed.getD i false = f i) → Closed ops listed → listed.size = ops.size → (∀ j, p ≤ j → j < ops.size → f j = false) →
      ((List.range p).filter fun i => !f i).length = n → n + (ops.size - p) ≤ fuel → wpAny P .any ops Q fuel listed a w := by
  obtain ⟨hpm, hdn, hch, hdp⟩ := stateB_spec hF
  intro n
  induction n with
  | zero =>
    intro fuel listed f a w hI hf hcl hsz htl hn hfu
    have hall : ∀ i, i < p → f i = true := by
      intro i hi
      cases hx : f i
      · exfalso
        have : i ∈ (List.range p).filter fun i => !f i := List.mem_filter.2 ⟨List.mem_range.2 hi, by simp [hx]⟩
        rw [List.eq_nil_of_length_eq_zero hn] at this; cases this
      · rfl
    refine st_tail hF (ops.size - p) p fuel listed a w (Nat.le_refl _) (by omega) hsz (fun j hj => ?_) (hend f a w hI hall) (by omega)
    have h1 := hf j hj
    have hj' : j < listed.size := by omega
    have h2 : listed.getD j true = listed.getD j false := by simp [hj']
    rw [h2, h1]
    rcases Nat.lt_or_ge j p with h | h
    · rw [hall j h]; simp [h]
    · rw [htl j h hj]; simp; omega
  | succ n ih =>
    intro fuel listed f a w hI hf hcl hsz htl hn hfu
    cases fuel with
    | zero => omega
    | succ fuel =>
      refine ⟨fun h0 => ?_, fun i hi => ?_⟩
      · exfalso
        -- the least that has not come up may come up
        have hex : ∃ i, i < p ∧ f i = false ∧ ∀ j, j < i → f j = true := by
          apply Classical.byContradiction
          intro hno
          have hall : ∀ i, i < p → f i = true := by
            intro i
            induction i using Nat.strongRecOn with
            | _ i ih2 =>
              intro hi
              cases hx : f i
              · exact absurd ⟨i, hi, hx, fun j hj => ih2 j hj (by omega)⟩ hno
              · rfl
          have : (List.range p).filter (fun i => !f i) = [] := List.filter_eq_nil_iff.2 fun i hi => by simp [hall i (List.mem_range.1 hi)]
          rw [this] at hn; cases hn
        obtain ⟨i, hip, hx, hless⟩ := hex
        have hin : i < ops.size := by omega
        have : i ∈ Region.ready .any ops listed := by
          refine mem_ready.2 ⟨?_, ops[i], Array.getElem?_eq_getElem hin, fun e he hb => ?_⟩
          · have hj' : i < listed.size := by omega
            have := hf i hin
            simp [hj'] at this ⊢
            rw [this, hx]
          · have hlt := hdn i _ (Array.getElem?_eq_getElem hin) e he hb
            rw [hf _ (by omega)]; exact hless _ hlt
        rw [h0] at this; cases this
      · obtain ⟨h0, o, ho, hall⟩ := mem_ready.1 hi
        have hin := (Array.getElem?_eq_some_iff.1 ho).1
        have hfi : f i = false := by
          have hj' : i < listed.size := by omega
          have := hf i hin
          simp [hj'] at this h0
          rw [← this, h0]
        have hip : i < p := by
          rcases Nat.lt_or_ge i p with h | h
          · exact h
          · exfalso
            -- its tail's first is not there, so i is p, and waits on all
            have hiq : i = p := by
              rcases Nat.lt_or_eq_of_le h with h1 | h1
              · exfalso
                have h2 := waits_listed (hch i o ho h1) hall
                rw [hf _ (by omega), htl _ (by omega) (by omega)] at h2; cases h2
              · exact h1.symm
            subst hiq
            have hdl := depsOf_listed hcl i i (fun o' ho' e he hb => by rw [ho] at ho'; cases ho'; exact hall e he hb)
            have : ∀ j, j < i → f j = true := fun j hj => by rw [← hf j (by omega)]; exact hdl j (hdp hin j hj)
            have h3 : (List.range i).filter (fun j => !f j) = [] := List.filter_eq_nil_iff.2 fun j hj => by simp [this j (List.mem_range.1 hj)]
            rw [h3] at hn; cases hn
        refine wpOp_mono (fun a' w' h' => ih fuel _ _ a' w' h' (fun j hj => ?_) ?_ (by simpa using hsz) (fun j h1 h2 => ?_) ?_ (by omega)) (hstep f a w i o hI ho hip hfi (fun e he hb => by
          have := hall e he hb
          rw [hf _ (by have := hdn i o ho e he hb; omega)] at this; exact this))
        · by_cases e : j = i
          · subst e
            have : j < listed.size := by omega
            simp [this]
          · rw [getD_set_ne false (fun h => e h.symm), if_neg e]; exact hf j hj
        · intro j q hq hl e he hb
          by_cases hje : j = i
          · subst hje
            rw [ho] at hq; cases hq
            exact getD_set_true (hall e he hb)
          · rw [getD_set_ne false (fun h => hje h.symm)] at hl
            exact getD_set_true (hcl j q hq hl e he hb)
        · rw [if_neg (by omega)]; exact htl j h1 h2
        · have hmem : i ∈ (List.range p).filter fun j => !f j := List.mem_filter.2 ⟨List.mem_range.2 hip, by simp [hfi]⟩
          have hnd : ((List.range p).filter fun j => !f j).Nodup := List.Pairwise.filter _ List.nodup_range
          have he : (List.range p).filter (fun j => !(if j = i then true else f j)) = ((List.range p).filter fun j => !f j).erase i := by
            rw [List.Nodup.erase_eq_filter hnd, List.filter_filter]
            refine List.filter_congr fun j hj => ?_
            by_cases e : j = i <;> simp [e]
          rw [he, List.length_erase_of_mem hmem, hn]; rfl
end
/-- THE LAW. -/
theorem wp_region_state {P : Program} {Q : Exit → Act → World → Prop} {id : Nat} {l : List Oper} {a : Act} {w : World} (p : Nat) (I : (Nat → Bool) → Act → World → Prop) (hm : P.follows .mixedOrders = true) (hF : stateB l.toArray p = true)
    (h0 : I (fun _ => false) a w.drew)
    (hstep : ∀ f a w i o, I f a w → l[i]? = some o → i < p → f i = false → (∀ e ∈ o.after, Region.binds .any e = true → f e.on = true) → wpOp P l.toArray Q i (fun a' w' => I (fun j => if j = i then true else f j) a' w') a w)
    (hend : ∀ f a w, I f a w → (∀ i, i < p → f i = true) → wpList P l.toArray Q (l.drop p) a w) : (Code.region id l.toArray true).wp P Q a w := by
  have hpl : p ≤ l.length := by simpa using (stateB_spec hF).1
  refine wp_region_any hm (any_state hF I (fun f a w i o hI ho => hstep f a w i o hI (by simpa using ho)) (fun f a w hI hall => ?_) _ _ _ (fun _ => false) a _ h0 (fun i hi => ?_) (fun i o ho hl => ?_) (by simp) (fun _ _ _ => rfl) rfl ?_)
  · have h1 := hend f a w hI hall
    rw [← wpOps_eq_wpList (P := P) (Q := Q) (ops := l.toArray) (l.drop p) p (fun j => by simp [List.getElem?_drop])] at h1
    simpa using h1
  · have : i < l.length := by simpa using hi
    simp [this]
  · have hi := (Array.getElem?_eq_some_iff.1 ho).1
    have : i < l.length := by simpa using hi
    simp [this] at hl
  · have : ((List.range p).filter fun _ => !false).length ≤ p := Nat.le_trans (List.length_filter_le _ _) (by simp)
    simp at *; omega
end Go.K
