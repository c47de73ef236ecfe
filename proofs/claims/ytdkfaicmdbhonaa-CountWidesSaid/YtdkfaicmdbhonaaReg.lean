/-
  A region that draws its order, walked once in the order of the text, whatever its operations do to memory, as long as each yields one value in every world of a class and leaves a world of that class; a tail that waits for all before it is walked as it stands. The same text for every seat (no program in it).
-/
import Derived.Orders
import Derived.WalkKit
namespace Go.K
set_option linter.unusedVariables false
set_option linter.unusedSimpArgs false

section
variable {P : Program} {ops : Array Oper} {C : World → Prop} {Q : Exit → Act → World → Prop}

/-- In a world of the class the run yields v and leaves a world of the class. -/
def InvRun (P : Program) (C : World → Prop) (v : Value) : Result Next → Prop
  | .ok (.value u) w' => C w' ∧ u = v
  | .ok .skip w' => C w' ∧ v = undef
  | .ok (.enter f args) w' => Calls P f args w' (fun e w'' => e = .returned v ∧ C w'')
  | _ => False
/-- Operations, one behind the other, from a frame: each yields one value in every world of the class. -/
def wpInv (P : Program) (ops : Array Oper) (C : World → Prop) (T : Act → Prop) : List Oper → Act → Prop
  | [], a => T a
  | o :: rest, a =>
    (Region.wanted o (yielded ops a.tmps) = true ∧ ∃ v, (∀ w, C w → InvRun P C v ((execOp a.eval o).run P w)) ∧ wpInv P ops C T rest (a.put o.dst v)) ∨
    (Region.wanted o (yielded ops a.tmps) = false ∧ wpInv P ops C T rest (a.put o.dst undef))
variable {T : Act → Prop}
theorem wpInv_nil {a : Act} (h : T a) : wpInv P ops C T [] a := h
theorem wpInv_cons {o : Oper} {rest : List Oper} {a : Act} (v : Value) (hw : Region.wanted o (yielded ops a.tmps) = true) (h : ∀ w, C w → InvRun P C v ((execOp a.eval o).run P w))
    (hk : wpInv P ops C T rest (a.put o.dst v)) : wpInv P ops C T (o :: rest) a := .inl ⟨hw, v, h, hk⟩
theorem wpInv_skip {o : Oper} {rest : List Oper} {a : Act} (hw : Region.wanted o (yielded ops a.tmps) = false)
    (hk : wpInv P ops C T rest (a.put o.dst undef)) : wpInv P ops C T (o :: rest) a := .inr ⟨hw, hk⟩
/-- What one operation does from a frame, and what is asked behind it. -/
def invOne (P : Program) (ops : Array Oper) (C : World → Prop) (o : Oper) (a : Act) (K : Act → Prop) : Prop :=
  (Region.wanted o (yielded ops a.tmps) = true ∧ ∃ v, (∀ w, C w → InvRun P C v ((execOp a.eval o).run P w)) ∧ K (a.put o.dst v)) ∨
  (Region.wanted o (yielded ops a.tmps) = false ∧ K (a.put o.dst undef))
theorem invOne_mono {o : Oper} {a : Act} {K K' : Act → Prop} (h : ∀ a, K a → K' a) (hh : invOne P ops C o a K) : invOne P ops C o a K' := by
  rcases hh with ⟨h1, v, h2, h3⟩ | ⟨h1, h2⟩
  · exact .inl ⟨h1, v, h2, h _ h3⟩
  · exact .inr ⟨h1, h _ h2⟩
theorem wpInv_one {o : Oper} {rest : List Oper} {a : Act} : wpInv P ops C T (o :: rest) a ↔ invOne P ops C o a (wpInv P ops C T rest) := Iff.rfl
/-- Two operations that are apart change places. -/
theorem invOne_swap {o p : Oper} (hap : o.apart ops p = true) (hso : ∀ cs b, o.op ≠ .select cs b) (hsp : ∀ cs b, p.op ≠ .select cs b) {a : Act} {K : Act → Prop}
    (h : invOne P ops C p a (fun a' => invOne P ops C o a' K)) : invOne P ops C o a (fun a' => invOne P ops C p a' K) := by
  obtain ⟨h1, h2, h3⟩ := Oper.apart_spec hap
  have keyO : ∀ u, execOp (a.put p.dst u).eval o = execOp a.eval o := fun u => execOp_put o hso a p.dst u h3
  have keyP : ∀ u, execOp (a.put o.dst u).eval p = execOp a.eval p := fun u => execOp_put p hsp a o.dst u h1
  have wO : ∀ u, Region.wanted o (yielded ops (a.put p.dst u).tmps) = Region.wanted o (yielded ops a.tmps) := fun u => wanted_put o a p.dst u h3
  have wP : ∀ u, Region.wanted p (yielded ops (a.put o.dst u).tmps) = Region.wanted p (yielded ops a.tmps) := fun u => wanted_put p a o.dst u h1
  rcases h with ⟨hp, u, hu, ho⟩ | ⟨hp, ho⟩
  · rcases ho with ⟨hw, v, hv, hk⟩ | ⟨hw, hk⟩
    · rw [wO] at hw
      refine .inl ⟨hw, v, fun w hc => by have := hv w hc; rwa [keyO] at this, .inl ⟨by rw [wP]; exact hp, u, fun w hc => by rw [keyP]; exact hu w hc, ?_⟩⟩
      rw [Act.put_comm a v u h2]; exact hk
    · rw [wO] at hw
      refine .inr ⟨hw, .inl ⟨by rw [wP]; exact hp, u, fun w hc => by rw [keyP]; exact hu w hc, ?_⟩⟩
      rw [Act.put_comm a undef u h2]; exact hk
  · rcases ho with ⟨hw, v, hv, hk⟩ | ⟨hw, hk⟩
    · rw [wO] at hw
      refine .inl ⟨hw, v, fun w hc => by have := hv w hc; rwa [keyO] at this, .inr ⟨by rw [wP]; exact hp, ?_⟩⟩
      rw [Act.put_comm a v undef h2]; exact hk
    · rw [wO] at hw
      refine .inr ⟨hw, .inr ⟨by rw [wP]; exact hp, ?_⟩⟩
      rw [Act.put_comm a undef undef h2]; exact hk
theorem wpInv_take {o : Oper} (hso : ∀ cs b, o.op ≠ .select cs b) {post : List Oper} : ∀ (pre : List Oper), (∀ p ∈ pre, o.apart ops p = true ∧ ∀ cs b, p.op ≠ .select cs b) →
    ∀ a, wpInv P ops C T (pre ++ o :: post) a → invOne P ops C o a (wpInv P ops C T (pre ++ post))
  | [], _, _, h => h
  | p :: pre, hp, a, h => by
    have h' : invOne P ops C p a (wpInv P ops C T (pre ++ o :: post)) := h
    have h2 := invOne_mono (K' := fun a' => invOne P ops C o a' (wpInv P ops C T (pre ++ post))) (fun a' h3 => wpInv_take hso pre (fun q hq => hp q (List.mem_cons_of_mem _ hq)) a' h3) h'
    exact invOne_swap (hp p (List.mem_cons_self ..)).1 hso (hp p (List.mem_cons_self ..)).2 h2

/-- What is looked at once, by the kernel, of a region and of the place at which its tail begins. -/
def waitsOn (o : Oper) (j : Nat) : Bool := o.after.any fun e => Region.binds .any e && e.on == j
def regB (ops : Array Oper) (m : Nat) : Bool :=
  Region.noSelect ops && decide (m ≤ ops.size) && (List.range ops.size).all fun i => match ops[i]? with
    | none => false
    | some o => (o.after.all fun e => !Region.binds .any e || decide (e.on < i)) &&
      (List.range i).all fun j => match ops[j]? with
        | none => false
        | some p => waitsOn o j || (decide (i < m) && o.apart ops p)
theorem regB_spec {m : Nat} (h : regB ops m = true) :
    Region.noSelect ops = true ∧ m ≤ ops.size ∧ (∀ i o, ops[i]? = some o → ∀ e ∈ o.after, Region.binds .any e = true → e.on < i) ∧
    ∀ i o, ops[i]? = some o → ∀ j p, j < i → ops[j]? = some p → waitsOn o j = true ∨ (i < m ∧ o.apart ops p = true) := by
  unfold regB at h
  simp only [Bool.and_eq_true, decide_eq_true_eq, List.all_eq_true, List.mem_range] at h
  obtain ⟨⟨h1, h2⟩, h3⟩ := h
  refine ⟨h1, h2, ?_, ?_⟩
  · intro i o ho e he hb
    have := h3 i (Array.getElem?_eq_some_iff.1 ho).1
    rw [ho] at this
    simp only [Bool.and_eq_true, Array.all_eq_true_iff_forall_mem, Bool.or_eq_true, Bool.not_eq_true', decide_eq_true_eq] at this
    exact (this.1 e he).resolve_left (by simp [hb])
  · intro i o ho j p hj hp
    have := h3 i (Array.getElem?_eq_some_iff.1 ho).1
    rw [ho] at this
    simp only [Bool.and_eq_true, List.all_eq_true, List.mem_range] at this
    have h4 := this.2 j hj
    rw [hp] at h4
    simpa using h4
theorem waits_listed {o : Oper} {listed : Array Bool} {j : Nat} (h : waitsOn o j = true) (hall : ∀ e ∈ o.after, Region.binds .any e = true → listed.getD e.on false = true) : listed.getD j false = true := by
  unfold waitsOn at h
  obtain ⟨e, he, hb⟩ := Array.any_eq_true'.1 h
  simp only [Bool.and_eq_true, beq_iff_eq] at hb
  have := hall e he hb.1
  rwa [hb.2] at this

/-- The indices below m that have not come up, and their operations. -/
def unH (ops : Array Oper) (listed : Array Bool) (m : Nat) : List Nat := (List.range m).filter fun i => !listed.getD i true
def opsAt (ops : Array Oper) (l : List Nat) : List Oper := l.filterMap (ops[·]?)
theorem opsAt_append (a b : List Nat) : opsAt ops (a ++ b) = opsAt ops a ++ opsAt ops b := List.filterMap_append ..
theorem opsAt_cons {i : Nat} {o : Oper} (l : List Nat) (h : ops[i]? = some o) : opsAt ops (i :: l) = o :: opsAt ops l := by simp [opsAt, h]
theorem mem_unH {listed : Array Bool} {m i : Nat} : i ∈ unH ops listed m ↔ i < m ∧ listed.getD i true = false := by
  simp [unH, List.mem_filter]
theorem unH_sorted (listed : Array Bool) (m : Nat) : (unH ops listed m).Pairwise (· < ·) := List.Pairwise.filter _ List.pairwise_lt_range
theorem unH_split {listed : Array Bool} {m i : Nat} (hi : i ∈ unH ops listed m) : ∃ pre post, unH ops listed m = pre ++ i :: post ∧ (∀ j ∈ pre, j < i) ∧
    unH ops (listed.setIfInBounds i true) m = pre ++ post := by
  obtain ⟨pre, post, he⟩ := List.append_of_mem hi
  have hs := unH_sorted (ops := ops) listed m
  rw [he, List.pairwise_append] at hs
  obtain ⟨_, h2, h3⟩ := hs
  rw [List.pairwise_cons] at h2
  refine ⟨pre, post, he, fun j hj => h3 j hj i (List.mem_cons_self ..), ?_⟩
  have hf : unH ops (listed.setIfInBounds i true) m = (unH ops listed m).filter (fun j => decide (j ≠ i)) := by
    unfold unH
    rw [List.filter_filter]
    refine List.filter_congr fun j hj => ?_
    by_cases e : i = j
    · subst e
      have hz : i < listed.size := by
        rcases Nat.lt_or_ge i listed.size with h' | h'
        · exact h'
        · have := (mem_unH.1 hi).2; simp [Array.getElem?_eq_none h'] at this
      simp [hz]
    · rw [getD_set_ne true e]
      have : j ≠ i := fun h => e h.symm
      simp [this]
  rw [hf, he, List.filter_append]
  have hp : pre.filter (fun j => decide (j ≠ i)) = pre := List.filter_eq_self.2 fun j hj => by have := h3 j hj i (List.mem_cons_self ..); simp; omega
  have hq : post.filter (fun j => decide (j ≠ i)) = post := List.filter_eq_self.2 fun j hj => by have := h2.1 j hj; simp; omega
  rw [hp, List.filter_cons_of_neg (by simp), hq]

theorem invOne_wp {i : Nat} {o : Oper} (ho : ops[i]? = some o) {a : Act} {w : World} {K : Act → Prop} {K' : Act → World → Prop} (hw : C w) (hk : ∀ a w, C w → K a → K' a w) (h : invOne P ops C o a K) : wpOp P ops Q i K' a w := by
  unfold wpOp
  rw [ho]
  dsimp only
  rcases h with ⟨h1, v, h2, h3⟩ | ⟨h1, h2⟩
  · rw [if_pos h1]
    left
    have h4 := h2 w hw
    unfold Oper.wp
    generalize (execOp a.eval o).run P w = r at h4
    cases r with
    | ok n w' =>
      cases n <;> simp only [InvRun] at h4 <;> simp only [Oper.upon]
      case value u =>
        obtain ⟨hc, rfl⟩ := h4
        exact hk _ _ hc h3
      case skip =>
        obtain ⟨hc, rfl⟩ := h4
        exact hk _ _ hc h3
      case enter f args =>
        exact h4.mono fun e w'' ⟨he, hc⟩ => by subst he; exact hk _ _ hc h3
    | halt x w' => simp only [InvRun] at h4
  · rw [if_neg (by simp [h1])]
    exact hk _ _ hw h2

variable {m : Nat}
/-- The tail alone is left. -/
theorem any_tail (hB : regB ops m = true) : ∀ (d k fuel : Nat) (listed : Array Bool) (a : Act) (w : World), m ≤ k → k + d = ops.size → listed.size = ops.size → (∀ j, j < ops.size → listed.getD j true = decide (j < k)) →
    wpOps P ops Q (List.range' k d) a w → d ≤ fuel → wpAny P .any ops Q fuel listed a w := by
  obtain ⟨hns, hm, hdn, hap⟩ := regB_spec hB
  intro d
  induction d with
  | zero =>
    intro k fuel listed a w hk hd hsz hl h _
    have hr : Region.ready .any ops listed = [] := by
      rw [List.eq_nil_iff_forall_not_mem]
      intro i hi
      obtain ⟨h0, o, ho, _⟩ := mem_ready.1 hi
      have hi' := (Array.getElem?_eq_some_iff.1 ho).1
      rw [hl i hi'] at h0
      simp at h0; omega
    cases fuel with
    | zero => exact ⟨hr, h⟩
    | succ fuel => exact ⟨fun _ => h, fun i hi => by rw [hr] at hi; cases hi⟩
  | succ d ih =>
    intro k fuel listed a w hk hd hsz hl h hf
    have hkn : k < ops.size := by omega
    have hnot : ∀ j, j < ops.size → listed.getD j false = decide (j < k) := by
      intro j hj
      have := hl j hj
      have hj' : j < listed.size := by omega
      simp [hj'] at this ⊢
      exact this
    cases fuel with
    | zero => omega
    | succ fuel =>
      have hkr : k ∈ Region.ready .any ops listed := by
        refine mem_ready.2 ⟨by rw [hl k hkn]; simp, ops[k], Array.getElem?_eq_getElem hkn, fun e he hb => ?_⟩
        have := hdn k _ (Array.getElem?_eq_getElem hkn) e he hb
        rw [hnot _ (by omega)]; simpa using this
      refine ⟨fun h0 => (by rw [h0] at hkr; cases hkr), fun i hi => ?_⟩
      obtain ⟨h0, o, ho, hall⟩ := mem_ready.1 hi
      have hin := (Array.getElem?_eq_some_iff.1 ho).1
      rw [hl i hin] at h0
      have hik : k ≤ i := by simpa using h0
      have : i = k := by
        rcases Nat.lt_or_eq_of_le hik with hlt | he
        · exfalso
          have h1 := hap i o ho k ops[k] hlt (Array.getElem?_eq_getElem hkn)
          rcases h1 with h1 | ⟨h1, _⟩
          · have := waits_listed h1 hall
            rw [hnot k hkn] at this; simp at this
          · omega
        · exact he.symm
      subst this
      rw [List.range'_succ, wpOps_cons] at h
      refine wpOp_mono (fun a' w' h' => ih (i + 1) fuel _ a' w' (by omega) (by omega) (by simpa using hsz) (fun j hj => ?_) h' (by omega)) h
      by_cases e : i = j
      · subst e
        have : i < listed.size := by omega
        simp [this]
      · rw [getD_set_ne true e, hl j hj]
        congr 1
        apply propext; omega
theorem any_inv (hB : regB ops m = true) (hT : ∀ a w, C w → T a → wpOps P ops Q (List.range' m (ops.size - m)) a w) : ∀ (n fuel : Nat) (listed : Array Bool) (a : Act) (w : World), C w → (unH ops listed m).length = n →
    listed.size = ops.size → (∀ j, m ≤ j → j < ops.size → listed.getD j true = false) → wpInv P ops C T (opsAt ops (unH ops listed m)) a → n + (ops.size - m) ≤ fuel → wpAny P .any ops Q fuel listed a w := by
  obtain ⟨hns, hm, hdn, hap⟩ := regB_spec hB
  intro n
  induction n with
  | zero =>
    intro fuel listed a w hc hn hsz htl h hf
    have hnil : unH ops listed m = [] := List.eq_nil_of_length_eq_zero hn
    rw [hnil] at h
    refine any_tail hB (ops.size - m) m fuel listed a w (Nat.le_refl _) (by omega) hsz (fun j hj => ?_) (hT a w hc h) (by omega)
    rcases Nat.lt_or_ge j m with h1 | h1
    · have : j ∉ unH ops listed m := by rw [hnil]; exact List.not_mem_nil
      rw [mem_unH] at this
      simp [h1] at this
      have hj' : j < listed.size := by omega
      simp [hj'] at this ⊢
      rw [this]; simp [h1]
    · rw [htl j h1 hj]; simp; omega
  | succ n ih =>
    intro fuel listed a w hc hn hsz htl h hf
    have hgd : ∀ j, j < ops.size → listed.getD j true = false → listed.getD j false = false := by
      intro j hj h1
      have hj' : j < listed.size := by omega
      simp [hj'] at h1 ⊢; exact h1
    have hgt : ∀ j, j < ops.size → listed.getD j false = false → listed.getD j true = false := by
      intro j hj h1
      have hj' : j < listed.size := by omega
      simp [hj'] at h1 ⊢; exact h1
    cases fuel with
    | zero => omega
    | succ fuel =>
      refine ⟨fun h0 => ?_, fun i hi => ?_⟩
      · exfalso
        cases hu : unH ops listed m with
        | nil => rw [hu] at hn; cases hn
        | cons i rest =>
          have hs := unH_sorted (ops := ops) listed m
          have hmem := mem_unH.1 (show i ∈ unH ops listed m by rw [hu]; exact List.mem_cons_self ..)
          have hin : i < ops.size := by omega
          have : i ∈ Region.ready .any ops listed := by
            refine mem_ready.2 ⟨hmem.2, ops[i], Array.getElem?_eq_getElem hin, fun e he hb => ?_⟩
            have hlt := hdn i _ (Array.getElem?_eq_getElem hin) e he hb
            cases hx : listed.getD e.on false
            · exfalso
              have hm2 : e.on ∈ unH ops listed m := mem_unH.2 ⟨by omega, hgt _ (by omega) hx⟩
              rw [hu] at hm2 hs
              rcases List.mem_cons.1 hm2 with h1 | h1
              · omega
              · have := (List.pairwise_cons.1 hs).1 _ h1; omega
            · rfl
          rw [h0] at this; cases this
      · obtain ⟨h0, o, ho, hall⟩ := mem_ready.1 hi
        have hin := (Array.getElem?_eq_some_iff.1 ho).1
        have him : i < m := by
          rcases Nat.lt_or_ge i m with h1 | h1
          · exact h1
          · exfalso
            cases hu : unH ops listed m with
            | nil => rw [hu] at hn; cases hn
            | cons j rest =>
              have hmem := mem_unH.1 (show j ∈ unH ops listed m by rw [hu]; exact List.mem_cons_self ..)
              have hjn : j < ops.size := by omega
              rcases hap i o ho j ops[j] (by omega) (Array.getElem?_eq_getElem hjn) with h2 | ⟨h2, _⟩
              · have := waits_listed h2 hall
                rw [hgd j hjn hmem.2] at this; cases this
              · omega
        obtain ⟨pre, post, he, hpre, hset⟩ := unH_split (ops := ops) (mem_unH.2 ⟨him, h0⟩)
        have hsel : ∀ (j : Nat) (p : Oper), ops[j]? = some p → ∀ cs b, p.op ≠ .select cs b := fun j p hp cs b => Region.noSelect_spec hns j p cs b hp
        rw [he, opsAt_append, opsAt_cons _ ho] at h
        have h2 := wpInv_take (hsel i o ho) (opsAt ops pre) (fun p hp => by
          obtain ⟨j, hj, hjp⟩ := List.mem_filterMap.1 hp
          have hjp' : ops[j]? = some p := hjp
          refine ⟨?_, hsel j p hjp'⟩
          rcases hap i o ho j p (hpre j hj) hjp' with h3 | ⟨_, h3⟩
          · exfalso
            have := waits_listed h3 hall
            have hju : j ∈ unH ops listed m := by rw [he]; exact List.mem_append_left _ hj
            rw [hgd j (Array.getElem?_eq_some_iff.1 hjp').1 (mem_unH.1 hju).2] at this; cases this
          · exact h3) a h
        rw [← opsAt_append, ← hset] at h2
        refine invOne_wp ho hc (fun a' w' hc' h' => ih fuel _ a' w' hc' ?_ (by simpa using hsz) (fun j h1 h2 => ?_) h' (by omega)) h2
        · rw [hset]; rw [he] at hn; simp at hn ⊢; omega
        · rw [getD_set_ne true (by omega)]; exact htl j h1 h2
end
/-- A whole variable of several cells, loaded. -/
theorem inv_load_row {P : Program} {C : World → Prop} {o : Oper} {a : Act} {w : World} (ty : TypeId) (x : Operand) (ho : o.op = .load ty x)
    (g : Nat) (hx : a.eval x = .pointer (some ⟨g, 0, none⟩)) (t : TypeId) (cs : Array Value) (fr : Nat × Nat) (d : TypeDesc) (hg : w.heap[g]? = some (.cells cs t fr))
    (hu : P.underlying ty = some d) (hd : (match d with | .struct _ | .array _ _ => true | _ => false) = true) (hi : (P.info? ty).map (·.size) = some cs.size) (hc : C w) :
    InvRun P C (.agg cs) ((execOp a.eval o).run P w) := by
  unfold execOp
  simp only [ho, hx, Instr.loadAt, Instr.sureAddr, Sem.run_bind, Sem.run_pure, Result.andThen_ok, run_loadVar_row w g t ty cs fr d hg hu hd hi]
  exact ⟨hc, rfl⟩
/-- THE LAW. 'm': where the tail begins (the region's length: there is none). -/
theorem wp_region_inv {P : Program} {id : Nat} {l : List Oper} {Q : Exit → Act → World → Prop} {a : Act} {w : World} (m : Nat) (C : World → Prop) (hm : P.follows .mixedOrders = true) (hB : regB l.toArray m = true)
    (hC : ∀ n, C { w with drawn := n }) (h : wpInv P l.toArray C (fun a => ∀ w, C w → wpList P l.toArray Q (l.drop m) a w) (l.take m) a) : (Code.region id l.toArray true).wp P Q a w := by
  have hml : m ≤ l.length := by simpa using (regB_spec hB).2.1
  refine wp_region_any hm (any_inv (T := fun a => ∀ w, C w → wpList P l.toArray Q (l.drop m) a w) hB (fun a w hc ht => ?_) _ _ _ _ _ (hC _) rfl (by simp) (fun j _ hj => ?_) ?_ ?_)
  · have he := wpOps_eq_wpList (P := P) (Q := Q) (ops := l.toArray) (l.drop m) m (fun j => by simp [List.getElem?_drop])
    have h1 := ht w hc
    rw [← he] at h1
    simpa using h1
  · have : j < l.length := by simpa using hj
    simp [this]
  · have hu : unH l.toArray (Array.replicate l.toArray.size false) m = List.range m := by
      unfold unH
      refine List.filter_eq_self.2 fun i hi => ?_
      have : i < l.length := by have := List.mem_range.1 hi; omega
      simp [this]
    rw [hu]
    have ht : opsAt l.toArray (List.range m) = l.take m := by
      clear h hu hB hC
      unfold opsAt
      induction m with
      | zero => simp
      | succ k ih =>
        rw [List.range_succ, List.filterMap_append, ih (by omega), List.take_succ_eq_append_getElem (by omega)]
        simp [show k < l.length by omega]
    rw [ht]; exact h
  · have : (unH l.toArray (Array.replicate l.toArray.size false) m).length ≤ m := by
      unfold unH; exact Nat.le_trans (List.length_filter_le _ _) (by simp)
    simp at *; omega
end Go.K
