/-
  wp_region_inv2: as wp_region_inv, but the tail may wait on what came before through others (a store that waits on an address that waits on a nil check ..).
-/
import Derived.Test.YthadfopkacbnlaaGen
namespace Go.K
open Go.RowKit
set_option linter.unusedVariables false
set_option linter.unusedSimpArgs false
section
variable {P : Program} {ops : Array Oper} {C : World → Prop} {Q : Exit → Act → World → Prop} {T : Act → Prop}
/-- What has come up holds what it waited on. -/
def Closed (ops : Array Oper) (listed : Array Bool) : Prop := ∀ j o, ops[j]? = some o → listed.getD j false = true → ∀ e ∈ o.after, Region.binds .any e = true → listed.getD e.on false = true
theorem Closed.none (ops : Array Oper) : Closed ops (Array.replicate ops.size false) := fun j o ho h => by
  have : j < ops.size := (Array.getElem?_eq_some_iff.1 ho).1
  simp [this] at h
theorem getD_true_set {listed : Array Bool} {i j : Nat} (h : listed.getD j false = true) : (listed.setIfInBounds i true).getD j false = true := by
  have hj : j < listed.size := by
    rcases Nat.lt_or_ge j listed.size with h' | h'
    · exact h'
    · simp [Array.getElem?_eq_none h'] at h
  by_cases e : i = j
  · subst e; simp [hj]
  · rw [getD_set_ne false e]; exact h
theorem Closed.set {listed : Array Bool} (h : Closed ops listed) {i : Nat} {o : Oper} (ho : ops[i]? = some o) (hall : ∀ e ∈ o.after, Region.binds .any e = true → listed.getD e.on false = true) : Closed ops (listed.setIfInBounds i true) := by
  intro j p hp hj e he hb
  by_cases c : i = j
  · subst c
    rw [ho] at hp; injection hp with hp; subst hp
    exact getD_true_set (hall e he hb)
  · refine getD_true_set (h j p hp ?_ e he hb)
    have hsz : j < listed.size := by
      rcases Nat.lt_or_ge j listed.size with h' | h'
      · exact h'
      · have : (listed.setIfInBounds i true)[j]? = Option.none := Array.getElem?_eq_none (by simpa using h')
        simp [this] at hj
    simpa [Array.getElem_setIfInBounds, c, hsz] using hj
def waitsT (ops : Array Oper) : Nat → Oper → Nat → Bool
  | 0, o, j => waitsOn o j
  | f + 1, o, j => waitsOn o j || o.after.any fun e => Region.binds .any e && (match ops[e.on]? with | some q => waitsT ops f q j | Option.none => false)
theorem waitsT_listed {listed : Array Bool} (hcl : Closed ops listed) {j : Nat} : ∀ {f : Nat} {o : Oper}, waitsT ops f o j = true → (∀ e ∈ o.after, Region.binds .any e = true → listed.getD e.on false = true) → listed.getD j false = true
  | 0, o, h, hall => waits_listed h hall
  | f + 1, o, h, hall => by
    simp only [waitsT, Bool.or_eq_true] at h
    rcases h with h | h
    · exact waits_listed h hall
    · obtain ⟨e, he, hb⟩ := Array.any_eq_true'.1 h
      simp only [Bool.and_eq_true] at hb
      cases hq : ops[e.on]? with
      | none => rw [hq] at hb; simp at hb
      | some q =>
        rw [hq] at hb
        exact waitsT_listed hcl hb.2 (hcl e.on q hq (hall e he hb.1))
def regB2 (ops : Array Oper) (m : Nat) : Bool :=
  Region.noSelect ops && decide (m ≤ ops.size) && (List.range ops.size).all fun i => match ops[i]? with
    | Option.none => false
    | some o => (o.after.all fun e => !Region.binds .any e || decide (e.on < i)) &&
      (List.range i).all fun j => match ops[j]? with
        | Option.none => false
        | some p => waitsOn o j || (decide (i < m) && o.apart ops p) || waitsT ops 9 o j
theorem regB2_spec {m : Nat} (h : regB2 ops m = true) :
    Region.noSelect ops = true ∧ m ≤ ops.size ∧ (∀ i o, ops[i]? = some o → ∀ e ∈ o.after, Region.binds .any e = true → e.on < i) ∧
    ∀ i o, ops[i]? = some o → ∀ j p, j < i → ops[j]? = some p → waitsT ops 9 o j = true ∨ (i < m ∧ o.apart ops p = true) := by
  unfold regB2 at h
  simp only [Bool.and_eq_true, decide_eq_true_eq, List.all_eq_true, List.mem_range] at h
  obtain ⟨⟨h1, h2⟩, h3⟩ := h
  refine ⟨h1, h2, ?_, ?_⟩
  · intro i o ho e he hb
    have := h3 i (Array.getElem?_eq_some_iff.1 ho).1
    rw [ho] at this
    simp only [Bool.and_eq_true, Array.all_eq_true_iff_forall_mem, Bool.or_eq_true, Bool.not_eq_true', decide_eq_true_eq] at this
    exact (this.1 e he).resolve_left (by simp [hb])
  · intro i o ho j p hj hp
    have := h3 i (Array.getElem?_eq_some_iff.1 ho).1
    rw [ho] at this
    simp only [Bool.and_eq_true, List.all_eq_true, List.mem_range] at this
    have h4 := this.2 j hj
    rw [hp] at h4
    simp only [Bool.or_eq_true, Bool.and_eq_true, decide_eq_true_eq] at h4
    rcases h4 with (h4 | h4) | h4
    · left
      show (waitsOn o j || _) = true
      rw [h4]; rfl
    · exact .inr h4
    · exact .inl h4
variable {m : Nat}
/-- The tail alone is left. -/
theorem any_tail2 (hB : regB2 ops m = true) : ∀ (d k fuel : Nat) (listed : Array Bool) (a : Act) (w : World), m ≤ k → k + d = ops.size → listed.size = ops.size → (∀ j, j < ops.size → listed.getD j true = decide (j < k)) → Closed ops listed →
    wpOps P ops Q (List.range' k d) a w → d ≤ fuel → wpAny P .any ops Q fuel listed a w := by
  obtain ⟨hns, hm, hdn, hap⟩ := regB2_spec hB
  intro d
  induction d with
  | zero =>
    intro k fuel listed a w hk hd hsz hl hcl h _
    have hr : Region.ready .any ops listed = [] := by
      rw [List.eq_nil_iff_forall_not_mem]
      intro i hi
      obtain ⟨h0, o, ho, _⟩ := mem_ready.1 hi
      have hi' := (Array.getElem?_eq_some_iff.1 ho).1
      rw [hl i hi'] at h0
      simp at h0; omega
    cases fuel with
    | zero => exact ⟨hr, h⟩
    | succ fuel => exact ⟨fun _ => h, fun i hi => by rw [hr] at hi; cases hi⟩
  | succ d ih =>
    intro k fuel listed a w hk hd hsz hl hcl h hf
    have hkn : k < ops.size := by omega
    have hnot : ∀ j, j < ops.size → listed.getD j false = decide (j < k) := by
      intro j hj
      have := hl j hj
      have hj' : j < listed.size := by omega
      simp [hj'] at this ⊢
      exact this
    cases fuel with
    | zero => omega
    | succ fuel =>
      have hkr : k ∈ Region.ready .any ops listed := by
        refine mem_ready.2 ⟨by rw [hl k hkn]; simp, ops[k], Array.getElem?_eq_getElem hkn, fun e he hb => ?_⟩
        have := hdn k _ (Array.getElem?_eq_getElem hkn) e he hb
        rw [hnot _ (by omega)]; simpa using this
      refine ⟨fun h0 => (by rw [h0] at hkr; cases hkr), fun i hi => ?_⟩
      obtain ⟨h0, o, ho, hall⟩ := mem_ready.1 hi
      have hin := (Array.getElem?_eq_some_iff.1 ho).1
      rw [hl i hin] at h0
      have hik : k ≤ i := by simpa using h0
      have : i = k := by
        rcases Nat.lt_or_eq_of_le hik with hlt | he
        · exfalso
          have h1 := hap i o ho k ops[k] hlt (Array.getElem?_eq_getElem hkn)
          rcases h1 with h1 | ⟨h1, _⟩
          · have := waitsT_listed hcl h1 hall
            rw [hnot k hkn] at this; simp at this
          · omega
        · exact he.symm
      subst this
      rw [List.range'_succ, wpOps_cons] at h
      refine wpOp_mono (fun a' w' h' => ih (i + 1) fuel _ a' w' (by omega) (by omega) (by simpa using hsz) (fun j hj => ?_) (hcl.set ho hall) h' (by omega)) h
      by_cases e : i = j
      · subst e
        have : i < listed.size := by omega
        simp [this]
      · rw [getD_set_ne true e, hl j hj]
        congr 1
        apply propext; omega
theorem any_inv2 (hB : regB2 ops m = true) (hT : ∀ a w, C w → T a → wpOps P ops Q (List.range' m (ops.size - m)) a w) : ∀ (n fuel : Nat) (listed : Array Bool) (a : Act) (w : World), C w → (unH ops listed m).length = n →
    listed.size = ops.size → Closed ops listed → (∀ j, m ≤ j → j < ops.size → listed.getD j true = false) → wpInv P ops C T (opsAt ops (unH ops listed m)) a → n + (ops.size - m) ≤ fuel → wpAny P .any ops Q fuel listed a w := by
  obtain ⟨hns, hm, hdn, hap⟩ := regB2_spec hB
  intro n
  induction n with
  | zero =>
    intro fuel listed a w hc hn hsz hcl htl h hf
    have hnil : unH ops listed m = [] := List.eq_nil_of_length_eq_zero hn
    rw [hnil] at h
    refine any_tail2 hB (ops.size - m) m fuel listed a w (Nat.le_refl _) (by omega) hsz (fun j hj => ?_) hcl (hT a w hc h) (by omega)
    rcases Nat.lt_or_ge j m with h1 | h1
    · have : j ∉ unH ops listed m := by rw [hnil]; exact List.not_mem_nil
      rw [mem_unH] at this
      simp [h1] at this
      have hj' : j < listed.size := by omega
      simp [hj'] at this ⊢
      rw [this]; simp [h1]
    · rw [htl j h1 hj]; simp; omega
  | succ n ih =>
    intro fuel listed a w hc hn hsz hcl htl h hf
    have hgd : ∀ j, j < ops.size → listed.getD j true = false → listed.getD j false = false := by
      intro j hj h1
      have hj' : j < listed.size := by omega
      simp [hj'] at h1 ⊢; exact h1
    have hgt : ∀ j, j < ops.size → listed.getD j false = false → listed.getD j true = false := by
      intro j hj h1
      have hj' : j < listed.size := by omega
      simp [hj'] at h1 ⊢; exact h1
    cases fuel with
    | zero => omega
    | succ fuel =>
      refine ⟨fun h0 => ?_, fun i hi => ?_⟩
      · exfalso
        cases hu : unH ops listed m with
        | nil => rw [hu] at hn; cases hn
        | cons i rest =>
          have hs := unH_sorted (ops := ops) listed m
          have hmem := mem_unH.1 (show i ∈ unH ops listed m by rw [hu]; exact List.mem_cons_self ..)
          have hin : i < ops.size := by omega
          have : i ∈ Region.ready .any ops listed := by
            refine mem_ready.2 ⟨hmem.2, ops[i], Array.getElem?_eq_getElem hin, fun e he hb => ?_⟩
            have hlt := hdn i _ (Array.getElem?_eq_getElem hin) e he hb
            cases hx : listed.getD e.on false
            · exfalso
              have hm2 : e.on ∈ unH ops listed m := mem_unH.2 ⟨by omega, hgt _ (by omega) hx⟩
              rw [hu] at hm2 hs
              rcases List.mem_cons.1 hm2 with h1 | h1
              · omega
              · have := (List.pairwise_cons.1 hs).1 _ h1; omega
            · rfl
          rw [h0] at this; cases this
      · obtain ⟨h0, o, ho, hall⟩ := mem_ready.1 hi
        have hin := (Array.getElem?_eq_some_iff.1 ho).1
        have him : i < m := by
          rcases Nat.lt_or_ge i m with h1 | h1
          · exact h1
          · exfalso
            cases hu : unH ops listed m with
            | nil => rw [hu] at hn; cases hn
            | cons j rest =>
              have hmem := mem_unH.1 (show j ∈ unH ops listed m by rw [hu]; exact List.mem_cons_self ..)
              have hjn : j < ops.size := by omega
              rcases hap i o ho j ops[j] (by omega) (Array.getElem?_eq_getElem hjn) with h2 | ⟨h2, _⟩
              · have := waitsT_listed hcl h2 hall
                rw [hgd j hjn hmem.2] at this; cases this
              · omega
        obtain ⟨pre, post, he, hpre, hset⟩ := unH_split (ops := ops) (mem_unH.2 ⟨him, h0⟩)
        have hsel : ∀ (j : Nat) (p : Oper), ops[j]? = some p → ∀ cs b, p.op ≠ .select cs b := fun j p hp cs b => Region.noSelect_spec hns j p cs b hp
        rw [he, opsAt_append, opsAt_cons _ ho] at h
        have h2 := wpInv_take (hsel i o ho) (opsAt ops pre) (fun p hp => by
          obtain ⟨j, hj, hjp⟩ := List.mem_filterMap.1 hp
          have hjp' : ops[j]? = some p := hjp
          refine ⟨?_, hsel j p hjp'⟩
          rcases hap i o ho j p (hpre j hj) hjp' with h3 | ⟨_, h3⟩
          · exfalso
            have := waitsT_listed hcl h3 hall
            have hju : j ∈ unH ops listed m := by rw [he]; exact List.mem_append_left _ hj
            rw [hgd j (Array.getElem?_eq_some_iff.1 hjp').1 (mem_unH.1 hju).2] at this; cases this
          · exact h3) a h
        rw [← opsAt_append, ← hset] at h2
        refine invOne_wp ho hc (fun a' w' hc' h' => ih fuel _ a' w' hc' ?_ (by simpa using hsz) (hcl.set ho hall) (fun j h1 h2 => ?_) h' (by omega)) h2
        · rw [hset]; rw [he] at hn; simp at hn ⊢; omega
        · rw [getD_set_ne true (by omega)]; exact htl j h1 h2
end
theorem wp_region_inv2 {P : Program} {id : Nat} {l : List Oper} {Q : Exit → Act → World → Prop} {a : Act} {w : World} (m : Nat) (C : World → Prop) (hm : P.follows .mixedOrders = true) (hB : regB2 l.toArray m = true)
    (hC : ∀ n, C { w with drawn := n }) (h : wpInv P l.toArray C (fun a => ∀ w, C w → wpList P l.toArray Q (l.drop m) a w) (l.take m) a) : (Code.region id l.toArray true).wp P Q a w := by
  have hml : m ≤ l.length := by simpa using (regB2_spec hB).2.1
  refine wp_region_any hm (any_inv2 (T := fun a => ∀ w, C w → wpList P l.toArray Q (l.drop m) a w) hB (fun a w hc ht => ?_) _ _ _ _ _ (hC _) rfl (by simp) (Closed.none l.toArray) (fun j _ hj => ?_) ?_ ?_)
  · have he := wpOps_eq_wpList (P := P) (Q := Q) (ops := l.toArray) (l.drop m) m (fun j => by simp [List.getElem?_drop])
    have h1 := ht w hc
    rw [← he] at h1
    simpa using h1
  · have : j < l.length := by simpa using hj
    simp [this]
  · have hu : unH l.toArray (Array.replicate l.toArray.size false) m = List.range m := by
      unfold unH
      refine List.filter_eq_self.2 fun i hi => ?_
      have : i < l.length := by have := List.mem_range.1 hi; omega
      simp [this]
    rw [hu]
    have ht : opsAt l.toArray (List.range m) = l.take m := by
      clear h hu hB hC
      unfold opsAt
      induction m with
      | zero => simp
      | succ k ih =>
        rw [List.range_succ, List.filterMap_append, ih (by omega), List.take_succ_eq_append_getElem (by omega)]
        simp [show k < l.length by omega]
    rw [ht]; exact h
  · have : (unH l.toArray (Array.replicate l.toArray.size false) m).length ≤ m := by
      unfold unH; exact Nat.le_trans (List.length_filter_le _ _) (by simp)
    simp at *; omega
end Go.K
