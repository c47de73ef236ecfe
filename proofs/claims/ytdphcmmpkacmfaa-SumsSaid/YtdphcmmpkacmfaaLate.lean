/-
  A region that draws its order and in which one plain move may come behind the first store (Departure.lateStores): walked in the text's order all the same.
-/
import Derived.Test.YtdphcmmpkacmfaaReg
namespace Go.K
set_option linter.unusedVariables false
set_option linter.unusedSimpArgs false

section
variable {P : Program} {ops : Array Oper} {C D : World → Prop} {Q : Exit → Act → World → Prop}
def waits2 (ops : Array Oper) (o : Oper) (j : Nat) : Bool :=
  waitsOn o j || o.after.any fun e => Region.binds .any e && (match ops[e.on]? with | some q => waitsOn q j | none => false)
/-- The first operation of the tail, from a frame: from a world of C into one of D. -/
def lateT (P : Program) (ops : Array Oper) (C D : World → Prop) (Q : Exit → Act → World → Prop) (m : Nat) (om : Oper) (a : Act) : Prop :=
  Region.wanted om (yielded ops a.tmps) = true ∧ ∃ u, (∀ w, C w → InvRun P D u ((execOp a.eval om).run P w)) ∧ ∀ w, D w → wpOps P ops Q (List.range' (m + 1) (ops.size - (m + 1))) (a.put om.dst u) w
theorem late_wp {i : Nat} {o : Oper} (ho : ops[i]? = some o) {a : Act} {w : World} {K' : Act → World → Prop} (h1 : Region.wanted o (yielded ops a.tmps) = true) {u : Value} (h4 : InvRun P D u ((execOp a.eval o).run P w))
    (hk : ∀ w, D w → K' (a.put o.dst u) w) : wpOp P ops Q i K' a w := by
  unfold wpOp
  rw [ho]
  dsimp only
  rw [if_pos h1]
  left
  unfold Oper.wp
  generalize (execOp a.eval o).run P w = r at h4
  cases r with
  | ok n w' =>
    cases n <;> simp only [InvRun] at h4 <;> simp only [Oper.upon]
    case value u =>
      obtain ⟨hc, rfl⟩ := h4
      exact hk _ hc
    case skip =>
      obtain ⟨hc, rfl⟩ := h4
      exact hk _ hc
    case enter f args =>
      exact h4.mono fun e w'' ⟨he, hc⟩ => by subst he; exact hk _ hc
  | halt x w' => simp only [InvRun] at h4
variable {m : Nat}
theorem any_late (hB : regB ops (m + 1) = true) {p : Nat} (hp : p < m) {op om : Oper} (hop : ops[p]? = some op) (hom : ops[m]? = some om)
    (hmv : ∀ (a : Act) (w : World), (execOp a.eval op).run P w = .ok (.value (match op.op with | .move x => a.eval x | _ => undef)) w) (hw : ∀ y, Region.wanted op y = true)
    (h2 : ∀ j, j < m → j ≠ p → waits2 ops om j = true) (hap2 : om.apart ops op = true) :
    ∀ (n fuel : Nat) (listed : Array Bool) (a : Act) (w : World), C w → (unH ops listed m).length = n →
    listed.size = ops.size → (∀ j, m ≤ j → j < ops.size → listed.getD j true = false) →
    (∀ i o, ops[i]? = some o → listed.getD i false = true → ∀ e ∈ o.after, Region.binds .any e = true → listed.getD e.on false = true) →
    wpInv P ops C (lateT P ops C D Q m om) (opsAt ops (unH ops listed m)) a → n + (ops.size - m) ≤ fuel → wpAny P .any ops Q fuel listed a w := by
  obtain ⟨hns, hm, hdn, hap⟩ := regB_spec hB
  have hsel : ∀ (j : Nat) (q : Oper), ops[j]? = some q → ∀ cs b, q.op ≠ .select cs b := fun j q hq cs b => Region.noSelect_spec hns j q cs b hq
  have hms : m < ops.size := by omega
  intro n
  induction n with
  | zero =>
    intro fuel listed a w hc hn hsz htl hdc h hf
    have hnil : unH ops listed m = [] := List.eq_nil_of_length_eq_zero hn
    rw [hnil] at h
    have hlt : ∀ j, j < m → listed.getD j false = true := fun j hj => by
      have : j ∉ unH ops listed m := by rw [hnil]; exact List.not_mem_nil
      rw [mem_unH] at this
      simp [hj] at this
      have hj' : j < listed.size := by omega
      simp [hj'] at this ⊢; exact this
    cases fuel with
    | zero => omega
    | succ fuel =>
      have hmr : m ∈ Region.ready .any ops listed := by
        refine mem_ready.2 ⟨htl m (Nat.le_refl _) hms, om, hom, fun e he hb => hlt _ ?_⟩
        exact hdn m om hom e he hb
      refine ⟨fun h0 => by rw [h0] at hmr; (cases hmr), fun i hi => ?_⟩
      obtain ⟨h0, o, ho, hall⟩ := mem_ready.1 hi
      have hin := (Array.getElem?_eq_some_iff.1 ho).1
      have him : i = m := by
        rcases Nat.lt_trichotomy i m with h1 | h1 | h1
        · have := hlt i h1
          have hj' : i < listed.size := by omega
          simp [hj'] at this h0; rw [this] at h0; cases h0
        · exact h1
        · exfalso
          rcases hap i o ho m om h1 hom with h3 | ⟨h3, _⟩
          · have := waits_listed h3 hall
            have h4 := htl m (Nat.le_refl _) hms
            have hj' : m < listed.size := by omega
            simp [hj'] at this h4; rw [this] at h4; cases h4
          · omega
      subst him
      obtain ⟨hw1, u, hu, hrest⟩ := h
      rw [hom] at ho
      injection ho with ho
      subst ho
      refine late_wp hom hw1 (hu w hc) fun w' hd => ?_
      refine any_tail hB (ops.size - (i + 1)) (i + 1) fuel _ _ w' (Nat.le_refl _) (by omega) (by simpa using hsz) (fun j hj => ?_) (hrest w' hd) (by omega)
      by_cases e : i = j
      · subst e
        have : i < listed.size := by omega
        simp [this]
      · rw [getD_set_ne true e]
        rcases Nat.lt_or_ge j i with h1 | h1
        · have := hlt j h1
          have hj' : j < listed.size := by omega
          simp [hj'] at this ⊢; rw [this]; simp; omega
        · rw [htl j h1 hj]; simp; omega
  | succ n ih =>
    intro fuel listed a w hc hn hsz htl hdc h hf
    have hgd : ∀ j, j < ops.size → listed.getD j true = false → listed.getD j false = false := by
      intro j hj h1
      have hj' : j < listed.size := by omega
      simp [hj'] at h1 ⊢; exact h1
    have hgt : ∀ j, j < ops.size → listed.getD j false = false → listed.getD j true = false := by
      intro j hj h1
      have hj' : j < listed.size := by omega
      simp [hj'] at h1 ⊢; exact h1
    cases fuel with
    | zero => omega
    | succ fuel =>
      refine ⟨fun h0 => ?_, fun i hi => ?_⟩
      · exfalso
        cases hu : unH ops listed m with
        | nil => rw [hu] at hn; cases hn
        | cons i rest =>
          have hs := unH_sorted (ops := ops) listed m
          have hmem := mem_unH.1 (show i ∈ unH ops listed m by rw [hu]; exact List.mem_cons_self ..)
          have hin : i < ops.size := by omega
          have : i ∈ Region.ready .any ops listed := by
            refine mem_ready.2 ⟨hmem.2, ops[i], Array.getElem?_eq_getElem hin, fun e he hb => ?_⟩
            have hlt := hdn i _ (Array.getElem?_eq_getElem hin) e he hb
            cases hx : listed.getD e.on false
            · exfalso
              have hm2 : e.on ∈ unH ops listed m := mem_unH.2 ⟨by omega, hgt _ (by omega) hx⟩
              rw [hu] at hm2 hs
              rcases List.mem_cons.1 hm2 with h1 | h1
              · omega
              · have := (List.pairwise_cons.1 hs).1 _ h1; omega
            · rfl
          rw [h0] at this; cases this
      · obtain ⟨h0, o, ho, hall⟩ := mem_ready.1 hi
        have hin := (Array.getElem?_eq_some_iff.1 ho).1
        rcases Nat.lt_trichotomy i m with him | him | him
        · obtain ⟨pre, post, he, hpre, hset⟩ := unH_split (ops := ops) (mem_unH.2 ⟨him, h0⟩)
          rw [he, opsAt_append, opsAt_cons _ ho] at h
          have h2' := wpInv_take (hsel i o ho) (opsAt ops pre) (fun q hq => by
            obtain ⟨j, hj, hjp⟩ := List.mem_filterMap.1 hq
            have hjp' : ops[j]? = some q := hjp
            refine ⟨?_, hsel j q hjp'⟩
            rcases hap i o ho j q (hpre j hj) hjp' with h3 | ⟨_, h3⟩
            · exfalso
              have := waits_listed h3 hall
              have hju : j ∈ unH ops listed m := by rw [he]; exact List.mem_append_left _ hj
              rw [hgd j (Array.getElem?_eq_some_iff.1 hjp').1 (mem_unH.1 hju).2] at this; cases this
            · exact h3) a h
          rw [← opsAt_append, ← hset] at h2'
          refine invOne_wp ho hc (fun a' w' hc' h' => ih fuel _ a' w' hc' ?_ (by simpa using hsz) (fun j h1 h2 => ?_) (fun k q hq hk e he' hb => ?_) h' (by omega)) h2'
          · rw [hset]; rw [he] at hn; simp at hn ⊢; omega
          · rw [getD_set_ne true (by omega)]; exact htl j h1 h2
          · have key : listed.getD e.on false = true := by
              by_cases e1 : i = k
              · subst e1
                rw [hq] at ho; injection ho with ho; subst ho
                exact hall e he' hb
              · rw [getD_set_ne false e1] at hk
                exact hdc k q hq hk e he' hb
            by_cases e2 : i = e.on
            · rw [← e2]
              have : i < listed.size := by omega
              simp [this]
            · rw [getD_set_ne false e2]; exact key
        · -- the first of the tail, the move pending
          subst him
          rw [hom] at ho; injection ho with ho; subst ho
          have hall' : ∀ j ∈ unH ops listed i, j = p := by
            intro j hj
            obtain ⟨hji, hjl⟩ := mem_unH.1 hj
            by_cases e : j = p
            · exact e
            · exfalso
              have h3 := h2 j hji e
              unfold waits2 at h3
              rw [Bool.or_eq_true] at h3
              rcases h3 with h3 | h3
              · have := waits_listed h3 hall
                rw [hgd j (by omega) hjl] at this; cases this
              · obtain ⟨e', he', hb'⟩ := Array.any_eq_true'.1 h3
                simp only [Bool.and_eq_true] at hb'
                obtain ⟨hb1, hb2⟩ := hb'
                cases hq : ops[e'.on]? with
                | none => rw [hq] at hb2; cases hb2
                | some q =>
                  rw [hq] at hb2
                  have hl := hall e' he' hb1
                  have := waits_listed hb2 (hdc e'.on q hq hl)
                  rw [hgd j (by omega) hjl] at this; cases this
          have hone : unH ops listed i = [p] := by
            have hs := unH_sorted (ops := ops) listed i
            cases hu : unH ops listed i with
            | nil => rw [hu] at hn; cases hn
            | cons x rest =>
              rw [hu] at hall' hs
              have hx := hall' x (List.mem_cons_self ..)
              subst hx
              cases rest with
              | nil => rfl
              | cons y r2 =>
                have hy := hall' y (List.mem_cons_of_mem _ (List.mem_cons_self ..))
                have := (List.pairwise_cons.1 hs).1 y (List.mem_cons_self ..)
                omega
          rw [hone, opsAt_cons _ hop] at h
          have hpl : listed.getD p true = false := (mem_unH.1 (show p ∈ unH ops listed i by rw [hone]; exact List.mem_cons_self ..)).2
          rcases h with ⟨_, v, hv, hT⟩ | ⟨hbad, _⟩
          case inr => rw [hw] at hbad; cases hbad
          obtain ⟨hw1, u, hu, hrest⟩ := (show lateT P ops C D Q i om (a.put op.dst v) from hT)
          have hvw := hv w hc
          rw [hmv a w] at hvw
          obtain ⟨_, hvx⟩ := hvw
          obtain ⟨s1, s2, s3⟩ := Oper.apart_spec hap2
          have k1 : execOp (a.put op.dst v).eval om = execOp a.eval om := execOp_put om (hsel i om hom) a op.dst v s3
          have k2 : Region.wanted om (yielded ops (a.put op.dst v).tmps) = Region.wanted om (yielded ops a.tmps) := wanted_put om a op.dst v s3
          rw [k2] at hw1
          refine late_wp hom hw1 (by have := hu w hc; rwa [k1] at this) fun w' hd => ?_
          have k3 : execOp (a.put om.dst u).eval op = execOp a.eval op := execOp_put op (hsel p op hop) a om.dst u s1
          have hpl' : (listed.setIfInBounds i true).getD p true = false := by rw [getD_set_ne true (by omega)]; exact hpl
          cases fuel with
          | zero => omega
          | succ fuel =>
            have hlist : ∀ j, j < i → j ≠ p → listed.getD j true = true := by
              intro j hj hjp
              cases hx : listed.getD j true
              · exact absurd (mem_unH.2 ⟨hj, hx⟩ : j ∈ unH ops listed i) (by rw [hone]; simpa using hjp)
              · rfl
            have hpr : p ∈ Region.ready .any ops (listed.setIfInBounds i true) := by
              refine mem_ready.2 ⟨hpl', op, hop, fun e he hb => ?_⟩
              have hlt := hdn p op hop e he hb
              rw [getD_set_ne false (by omega)]
              have := hlist e.on (by omega) (by omega)
              have hj' : e.on < listed.size := by omega
              simp [hj'] at this ⊢; exact this
            refine ⟨fun h0 => by rw [h0] at hpr; (cases hpr), fun k hk => ?_⟩
            obtain ⟨g0, q, hq, hall2⟩ := mem_ready.1 hk
            have hkn := (Array.getElem?_eq_some_iff.1 hq).1
            have hkp : k = p := by
              rcases Nat.lt_trichotomy k i with h1 | h1 | h1
              · by_cases e : k = p
                · exact e
                · rw [getD_set_ne true (by omega), hlist k h1 e] at g0; cases g0
              · subst h1
                have : k < listed.size := by omega
                simp [this] at g0
              · exfalso
                rcases hap k q hq p op (by omega) hop with h3 | ⟨h3, _⟩
                · have := waits_listed h3 hall2
                  rw [getD_set_ne false (by omega), hgd p (by omega) hpl] at this; cases this
                · omega
            subst hkp
            rw [hop] at hq; injection hq with hq; subst hq
            refine late_wp (D := D) (u := v) hop (hw _) ?_ fun w'' hd' => ?_
            · rw [k3, hmv a w']; exact ⟨hd, hvx⟩
            · rw [Act.put_comm a u v s2]
              refine any_tail hB (ops.size - (i + 1)) (i + 1) fuel _ _ w'' (Nat.le_refl _) (by omega) (by simpa using hsz) (fun j hj => ?_) (hrest w'' hd') (by omega)
              by_cases e : k = j
              · subst e
                have : k < listed.size := by omega
                simp [this]; omega
              · rw [getD_set_ne true e]
                by_cases e2 : i = j
                · subst e2
                  have : i < listed.size := by omega
                  simp [this]
                · rw [getD_set_ne true e2]
                  rcases Nat.lt_or_ge j i with h1 | h1
                  · rw [hlist j h1 (fun h => e h.symm)]; simp; omega
                  · rw [htl j h1 hj]; simp; omega
        · exfalso
          cases hu : unH ops listed m with
          | nil => rw [hu] at hn; cases hn
          | cons j rest =>
            have hmem := mem_unH.1 (show j ∈ unH ops listed m by rw [hu]; exact List.mem_cons_self ..)
            have hjn : j < ops.size := by omega
            rcases hap i o ho j ops[j] (by omega) (Array.getElem?_eq_getElem hjn) with h2 | ⟨h2, _⟩
            · have := waits_listed h2 hall
              rw [hgd j hjn hmem.2] at this; cases this
            · omega
end
/-- What is looked at once, by the kernel: the move that may be late, and that the tail's first operation waits for all the others. -/
def lateB (ops : Array Oper) (m p : Nat) : Bool :=
  decide (p < m) && match ops[p]?, ops[m]? with
    | some op, some om => (match op.op with | .move _ => op.guard.isNone | _ => false) && om.apart ops op && (List.range m).all fun j => j == p || waits2 ops om j
    | _, _ => false
/-- THE LAW. 'm': the first operation of the tail (it leads from C to D); 'p': the move that may be late. -/
theorem wp_region_late {P : Program} {id : Nat} {l : List Oper} {Q : Exit → Act → World → Prop} {a : Act} {w : World} (m p : Nat) (C D : World → Prop) (hm : P.follows .mixedOrders = true) (hB : regB l.toArray (m + 1) = true)
    (hL : lateB l.toArray m p = true) (hC : ∀ n, C { w with drawn := n })
    (h : wpInv P l.toArray C (fun a => match l.drop m with
      | [] => False
      | om :: rest => Region.wanted om (yielded l.toArray a.tmps) = true ∧ ∃ u, (∀ w, C w → InvRun P D u ((execOp a.eval om).run P w)) ∧ ∀ w, D w → wpList P l.toArray Q rest (a.put om.dst u) w) (l.take m) a) :
    (Code.region id l.toArray true).wp P Q a w := by
  have hml : m < l.length := by have := (regB_spec hB).2.1; simp at this; omega
  unfold lateB at hL
  rw [Bool.and_eq_true, decide_eq_true_eq] at hL
  obtain ⟨hp, hL⟩ := hL
  have hom : l.toArray[m]? = some l[m] := by simp [hml]
  have hop : l.toArray[p]? = some (l[p]'(by omega)) := by simp [show p < l.length by omega]
  rw [hom, hop] at hL
  simp only [Bool.and_eq_true, List.all_eq_true, List.mem_range, Bool.or_eq_true, beq_iff_eq] at hL
  obtain ⟨⟨hmv, hap⟩, hall⟩ := hL
  have hmv' : ∃ x, (l[p]'(by omega)).op = .move x ∧ (l[p]'(by omega)).guard = none := by
    generalize (l[p]'(by omega)) = o at hmv
    split at hmv
    · rename_i x hx; exact ⟨x, hx, by simpa using hmv⟩
    · cases hmv
  obtain ⟨x, hx, hg⟩ := hmv'
  have hdrop : l.drop m = l[m] :: l.drop (m + 1) := List.drop_eq_getElem_cons hml
  rw [hdrop] at h
  refine wp_region_any hm (any_late (D := D) hB hp hop hom (fun a w => ?_) (fun y => ?_) (fun j hj hjp => (hall j hj).resolve_left hjp) hap _ _ _ _ _ (hC _) rfl (by simp) (fun j _ hj => ?_) (fun i o ho hi => ?_) ?_ ?_)
  · unfold execOp; rw [hx]; rfl
  · unfold Region.wanted; rw [hg]
  · have : j < l.length := by simpa using hj
    simp [this]
  · exfalso
    have : i < l.length := by have := (Array.getElem?_eq_some_iff.1 ho).1; simpa using this
    simp [this] at hi
  · have hu : unH l.toArray (Array.replicate l.toArray.size false) m = List.range m := by
      unfold unH
      refine List.filter_eq_self.2 fun i hi => ?_
      have : i < l.length := by have := List.mem_range.1 hi; omega
      simp [this]
    rw [hu]
    have ht : ∀ k, k ≤ l.length → opsAt l.toArray (List.range k) = l.take k := by
      intro k
      unfold opsAt
      induction k with
      | zero => intro _; simp
      | succ k ih =>
        intro hk
        rw [List.range_succ, List.filterMap_append, ih (by omega), List.take_succ_eq_append_getElem (by omega)]
        simp [show k < l.length by omega]
    rw [ht m (by omega)]
    have hT : (fun a : Act => Region.wanted l[m] (yielded l.toArray a.tmps) = true ∧ ∃ u, (∀ w, C w → InvRun P D u ((execOp a.eval l[m]).run P w)) ∧ ∀ w, D w → wpList P l.toArray Q (l.drop (m + 1)) (a.put l[m].dst u) w)
        = lateT P l.toArray C D Q m l[m] := by
      funext a
      unfold lateT
      have he := wpOps_eq_wpList (P := P) (Q := Q) (ops := l.toArray) (l.drop (m + 1)) (m + 1) (fun j => by simp [List.getElem?_drop])
      rw [← he]
      simp
    rw [← hT]
    exact h
  · have : (unH l.toArray (Array.replicate l.toArray.size false) m).length ≤ m := by
      unfold unH; exact Nat.le_trans (List.length_filter_le _ _) (by simp)
    simp at *; omega
end Go.K
