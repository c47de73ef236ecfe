/-
  A region that draws its order: first operations that only look (each yields one value in every world of a class, and leaves the world as it is), then loud ones, one waiting on the other, that keep the class, then a tail that waits for all before it. The looks may come up late, between the loud ones; not behind the tail's first. The same text for every seat (no program in it).
-/
import Derived.Test.YtdkfaicmdbhonaaGen
namespace Go.K
open Go.RowKit
set_option linter.unusedVariables false
set_option linter.unusedSimpArgs false
section
variable {P : Program} {ops : Array Oper} {C : World → Prop} {Q : Exit → Act → World → Prop}
/-- The run only looks, and yields v. -/
def PureRun (v : Value) (w : World) : Result Next → Prop
  | .ok (.value u) w' => w' = w ∧ u = v
  | .ok .skip w' => w' = w ∧ v = undef
  | _ => False
def pureOne (P : Program) (ops : Array Oper) (C : World → Prop) (o : Oper) (a : Act) (K : Act → Prop) : Prop :=
  (Region.wanted o (yielded ops a.tmps) = true ∧ ∃ v, (∀ w, C w → PureRun v w ((execOp a.eval o).run P w)) ∧ K (a.put o.dst v)) ∨
  (Region.wanted o (yielded ops a.tmps) = false ∧ K (a.put o.dst undef))
def wpPure (P : Program) (ops : Array Oper) (C : World → Prop) : List Oper → (Act → Prop) → Act → Prop
  | [], K, a => K a
  | o :: rest, K, a => pureOne P ops C o a (wpPure P ops C rest K)
theorem pureOne_mono {o : Oper} {a : Act} {K K' : Act → Prop} (h : ∀ a, K a → K' a) (hh : pureOne P ops C o a K) : pureOne P ops C o a K' := by
  rcases hh with ⟨h1, v, h2, h3⟩ | ⟨h1, h2⟩
  · exact .inl ⟨h1, v, h2, h _ h3⟩
  · exact .inr ⟨h1, h _ h2⟩
theorem wpPure_mono {K K' : Act → Prop} (h : ∀ a, K a → K' a) : ∀ (l : List Oper) (a : Act), wpPure P ops C l K a → wpPure P ops C l K' a
  | [], a, hh => h a hh
  | o :: l, a, hh => pureOne_mono (fun a' h' => wpPure_mono h l a' h') hh
theorem wpPure_some {K : Act → Prop} : ∀ (l : List Oper) (a : Act), wpPure P ops C l K a → ∃ a', K a'
  | [], a, h => ⟨a, h⟩
  | o :: l, a, h => by
    rcases h with ⟨_, v, _, h⟩ | ⟨_, h⟩
    · exact wpPure_some l _ h
    · exact wpPure_some l _ h
theorem pureOne_swap {o p : Oper} (hap : o.apart ops p = true) (hso : ∀ cs b, o.op ≠ .select cs b) (hsp : ∀ cs b, p.op ≠ .select cs b) {a : Act} {K : Act → Prop}
    (h : pureOne P ops C p a (fun a' => pureOne P ops C o a' K)) : pureOne P ops C o a (fun a' => pureOne P ops C p a' K) := by
  obtain ⟨h1, h2, h3⟩ := Oper.apart_spec hap
  have keyO : ∀ u, execOp (a.put p.dst u).eval o = execOp a.eval o := fun u => execOp_put o hso a p.dst u h3
  have keyP : ∀ u, execOp (a.put o.dst u).eval p = execOp a.eval p := fun u => execOp_put p hsp a o.dst u h1
  have wO : ∀ u, Region.wanted o (yielded ops (a.put p.dst u).tmps) = Region.wanted o (yielded ops a.tmps) := fun u => wanted_put o a p.dst u h3
  have wP : ∀ u, Region.wanted p (yielded ops (a.put o.dst u).tmps) = Region.wanted p (yielded ops a.tmps) := fun u => wanted_put p a o.dst u h1
  rcases h with ⟨hp, u, hu, ho⟩ | ⟨hp, ho⟩
  · rcases ho with ⟨hw, v, hv, hk⟩ | ⟨hw, hk⟩
    · rw [wO] at hw
      refine .inl ⟨hw, v, fun w hc => by have := hv w hc; rwa [keyO] at this, .inl ⟨by rw [wP]; exact hp, u, fun w hc => by rw [keyP]; exact hu w hc, ?_⟩⟩
      rw [Act.put_comm a v u h2]; exact hk
    · rw [wO] at hw
      refine .inr ⟨hw, .inl ⟨by rw [wP]; exact hp, u, fun w hc => by rw [keyP]; exact hu w hc, ?_⟩⟩
      rw [Act.put_comm a undef u h2]; exact hk
  · rcases ho with ⟨hw, v, hv, hk⟩ | ⟨hw, hk⟩
    · rw [wO] at hw
      refine .inl ⟨hw, v, fun w hc => by have := hv w hc; rwa [keyO] at this, .inr ⟨by rw [wP]; exact hp, ?_⟩⟩
      rw [Act.put_comm a v undef h2]; exact hk
    · rw [wO] at hw
      refine .inr ⟨hw, .inr ⟨by rw [wP]; exact hp, ?_⟩⟩
      rw [Act.put_comm a undef undef h2]; exact hk
theorem wpPure_take {o : Oper} (hso : ∀ cs b, o.op ≠ .select cs b) {K : Act → Prop} {post : List Oper} : ∀ (pre : List Oper), (∀ p ∈ pre, o.apart ops p = true ∧ ∀ cs b, p.op ≠ .select cs b) →
    ∀ a, wpPure P ops C (pre ++ o :: post) K a → pureOne P ops C o a (wpPure P ops C (pre ++ post) K)
  | [], _, _, h => h
  | p :: pre, hp, a, h => by
    have h' : pureOne P ops C p a (wpPure P ops C (pre ++ o :: post) K) := h
    have h2 := pureOne_mono (K' := fun a' => pureOne P ops C o a' (wpPure P ops C (pre ++ post) K)) (fun a' h3 => wpPure_take hso pre (fun q hq => hp q (List.mem_cons_of_mem _ hq)) a' h3) h'
    exact pureOne_swap (hp p (List.mem_cons_self ..)).1 hso (hp p (List.mem_cons_self ..)).2 h2
/-- A loud run: it yields some value, or enters a call that returns. -/
def LoudRun (P : Program) (K : Value → World → Prop) : Result Next → Prop
  | .ok (.value v) w' => K v w'
  | .ok .skip w' => K undef w'
  | .ok (.enter f args) w' => Calls P f args w' fun e w'' => ∃ v, e = .returned v ∧ K v w''
  | _ => False
theorem LoudRun.mono {K K' : Value → World → Prop} (h : ∀ v w, K v w → K' v w) {r : Result Next} (hh : LoudRun P K r) : LoudRun P K' r := by
  cases r with
  | ok n w' =>
    cases n <;> simp only [LoudRun] at hh ⊢
    case value u => exact h _ _ hh
    case skip => exact h _ _ hh
    case enter f args => exact hh.mono fun e w'' ⟨v, he, hk⟩ => ⟨v, he, h _ _ hk⟩
  | halt x w' => simp only [LoudRun] at hh
def loudOne (P : Program) (ops : Array Oper) (p : Oper) (K : Act → World → Prop) (a : Act) (w : World) : Prop :=
  (Region.wanted p (yielded ops a.tmps) = true ∧ LoudRun P (fun v w' => K (a.put p.dst v) w') ((execOp a.eval p).run P w)) ∨
  (Region.wanted p (yielded ops a.tmps) = false ∧ K (a.put p.dst undef) w)
theorem loudOne_mono {p : Oper} {K K' : Act → World → Prop} (h : ∀ a w, K a w → K' a w) {a : Act} {w : World} (hh : loudOne P ops p K a w) : loudOne P ops p K' a w := by
  rcases hh with ⟨h1, h2⟩ | ⟨h1, h2⟩
  · exact .inl ⟨h1, h2.mono fun v w' hk => h _ _ hk⟩
  · exact .inr ⟨h1, h _ _ h2⟩
theorem pure_loud_swap {o p : Oper} (hap : p.apart ops o = true) (hso : ∀ cs b, o.op ≠ .select cs b) (hsp : ∀ cs b, p.op ≠ .select cs b) {a : Act} {w : World} {K : Act → World → Prop}
    (h : pureOne P ops C o a (fun a' => loudOne P ops p K a' w)) : loudOne P ops p (fun a1 w1 => pureOne P ops C o a1 (fun a' => K a' w1)) a w := by
  obtain ⟨h1, h2, h3⟩ := Oper.apart_spec hap
  have keyP : ∀ u, execOp (a.put o.dst u).eval p = execOp a.eval p := fun u => execOp_put p hsp a o.dst u h3
  have keyO : ∀ u, execOp (a.put p.dst u).eval o = execOp a.eval o := fun u => execOp_put o hso a p.dst u h1
  have wP : ∀ u, Region.wanted p (yielded ops (a.put o.dst u).tmps) = Region.wanted p (yielded ops a.tmps) := fun u => wanted_put p a o.dst u h3
  have wO : ∀ u, Region.wanted o (yielded ops (a.put p.dst u).tmps) = Region.wanted o (yielded ops a.tmps) := fun u => wanted_put o a p.dst u h1
  rcases h with ⟨hw, u, hu, hl⟩ | ⟨hw, hl⟩
  · have hO : ∀ x w1, K ((a.put o.dst u).put p.dst x) w1 → pureOne P ops C o (a.put p.dst x) (fun a' => K a' w1) := fun x w1 hk =>
      .inl ⟨by rw [wO]; exact hw, u, fun w' hc => by rw [keyO]; exact hu w' hc, by rw [Act.put_comm a x u h2]; exact hk⟩
    rcases hl with ⟨hp, hr⟩ | ⟨hp, hr⟩
    · rw [wP] at hp; rw [keyP] at hr
      exact .inl ⟨hp, hr.mono fun v w' hk => hO v w' hk⟩
    · rw [wP] at hp
      exact .inr ⟨hp, hO undef w hr⟩
  · have hO : ∀ x w1, K ((a.put o.dst undef).put p.dst x) w1 → pureOne P ops C o (a.put p.dst x) (fun a' => K a' w1) := fun x w1 hk =>
      .inr ⟨by rw [wO]; exact hw, by rw [Act.put_comm a x undef h2]; exact hk⟩
    rcases hl with ⟨hp, hr⟩ | ⟨hp, hr⟩
    · rw [wP] at hp; rw [keyP] at hr
      exact .inl ⟨hp, hr.mono fun v w' hk => hO v w' hk⟩
    · rw [wP] at hp
      exact .inr ⟨hp, hO undef w hr⟩
theorem wpPure_loud {p : Oper} (hsp : ∀ cs b, p.op ≠ .select cs b) {w : World} {K : Act → World → Prop} : ∀ (l : List Oper), (∀ o ∈ l, p.apart ops o = true ∧ ∀ cs b, o.op ≠ .select cs b) →
    ∀ a, wpPure P ops C l (fun a' => loudOne P ops p K a' w) a → loudOne P ops p (fun a1 w1 => wpPure P ops C l (fun a' => K a' w1) a1) a w
  | [], _, _, h => h
  | o :: l, hl, a, h => by
    have h' : pureOne P ops C o a (wpPure P ops C l (fun a' => loudOne P ops p K a' w)) := h
    have h2 := pureOne_mono (K' := fun a' => loudOne P ops p (fun a1 w1 => wpPure P ops C l (fun a' => K a' w1) a1) a' w) (fun a' h3 => wpPure_loud hsp l (fun q hq => hl q (List.mem_cons_of_mem _ hq)) a' h3) h'
    exact pure_loud_swap (hl o (List.mem_cons_self ..)).1 (hl o (List.mem_cons_self ..)).2 hsp h2
def wpLoud (P : Program) (ops : Array Oper) (C : World → Prop) (T : Act → World → Prop) : List Oper → Act → World → Prop
  | [], a, w => T a w
  | p :: rest, a, w => loudOne P ops p (fun a1 w1 => C w1 ∧ wpLoud P ops C T rest a1 w1) a w
theorem pureOne_wp {i : Nat} {o : Oper} (ho : ops[i]? = some o) {a : Act} {w : World} {K : Act → Prop} {K' : Act → World → Prop} (hw : C w) (hk : ∀ a, K a → K' a w) (h : pureOne P ops C o a K) : wpOp P ops Q i K' a w := by
  unfold wpOp
  rw [ho]
  dsimp only
  rcases h with ⟨h1, v, h2, h3⟩ | ⟨h1, h2⟩
  · rw [if_pos h1]
    left
    have h4 := h2 w hw
    unfold Oper.wp
    generalize (execOp a.eval o).run P w = r at h4
    cases r with
    | ok n w' =>
      cases n <;> simp only [PureRun] at h4 <;> simp only [Oper.upon]
      case value u =>
        obtain ⟨rfl, rfl⟩ := h4
        exact hk _ h3
      case skip =>
        obtain ⟨rfl, rfl⟩ := h4
        exact hk _ h3
    | halt x w' => simp only [PureRun] at h4
  · rw [if_neg (by simp [h1])]
    exact hk _ h2
theorem loudOne_wp {i : Nat} {p : Oper} (ho : ops[i]? = some p) {a : Act} {w : World} {K K' : Act → World → Prop} (hk : ∀ a w, K a w → K' a w) (h : loudOne P ops p K a w) : wpOp P ops Q i K' a w := by
  unfold wpOp
  rw [ho]
  dsimp only
  rcases h with ⟨h1, h2⟩ | ⟨h1, h2⟩
  · rw [if_pos h1]
    left
    unfold Oper.wp
    generalize (execOp a.eval p).run P w = r at h2
    cases r with
    | ok n w' =>
      cases n <;> simp only [LoudRun] at h2 <;> simp only [Oper.upon]
      case value u => exact hk _ _ h2
      case skip => exact hk _ _ h2
      case enter f args => exact h2.mono fun e w'' ⟨v, he, hh⟩ => by subst he; exact hk _ _ hh
    | halt x w' => simp only [LoudRun] at h2
  · rw [if_neg (by simp [h1])]
    exact hk _ _ h2
/-- What is looked at once, by the kernel: the looks (below m) wait on, or are apart from, what comes before; each later one waits on the one before it; the loud ones (below p) wait on the looks or are apart from them; the tail's first waits on all looks. -/
def frontB (ops : Array Oper) (m p : Nat) : Bool :=
  Region.noSelect ops && decide (m ≤ p) && decide (p ≤ ops.size) && (List.range ops.size).all fun i => match ops[i]? with
    | none => false
    | some o => (o.after.all fun e => !Region.binds .any e || decide (e.on < i)) && (decide (i ≤ m) || waitsOn o (i - 1)) &&
      (List.range i).all fun j => decide (m ≤ j) || decide (p < i) || match ops[j]? with
        | none => false
        | some q => waitsOn o j || (decide (i < p) && o.apart ops q)
theorem frontB_spec {m p : Nat} (h : frontB ops m p = true) :
    Region.noSelect ops = true ∧ m ≤ p ∧ p ≤ ops.size ∧ (∀ i o, ops[i]? = some o → ∀ e ∈ o.after, Region.binds .any e = true → e.on < i) ∧
    (∀ i o, ops[i]? = some o → m < i → waitsOn o (i - 1) = true) ∧
    ∀ i o, ops[i]? = some o → i ≤ p → ∀ j q, j < i → j < m → ops[j]? = some q → waitsOn o j = true ∨ (i < p ∧ o.apart ops q = true) := by
  unfold frontB at h
  simp only [Bool.and_eq_true, decide_eq_true_eq, List.all_eq_true, List.mem_range] at h
  obtain ⟨⟨⟨h1, h2⟩, h3⟩, h4⟩ := h
  refine ⟨h1, h2, h3, ?_, ?_, ?_⟩
  · intro i o ho e he hb
    have := h4 i (Array.getElem?_eq_some_iff.1 ho).1
    rw [ho] at this
    simp only [Bool.and_eq_true, Array.all_eq_true_iff_forall_mem, Bool.or_eq_true, Bool.not_eq_true', decide_eq_true_eq] at this
    exact (this.1.1 e he).resolve_left (by simp [hb])
  · intro i o ho hmi
    have := h4 i (Array.getElem?_eq_some_iff.1 ho).1
    rw [ho] at this
    simp only [Bool.and_eq_true, Bool.or_eq_true, decide_eq_true_eq] at this
    exact this.1.2.resolve_left (by omega)
  · intro i o ho hip j q hj hjm hq
    have := h4 i (Array.getElem?_eq_some_iff.1 ho).1
    rw [ho] at this
    simp only [Bool.and_eq_true, List.all_eq_true, List.mem_range] at this
    have h5 := this.2 j hj
    rw [hq] at h5
    simp only [Bool.or_eq_true, Bool.and_eq_true, decide_eq_true_eq] at h5
    rcases h5 with (h5 | h5) | h5
    · omega
    · omega
    · exact h5
theorem front_tail {m p : Nat} (hF : frontB ops m p = true) : ∀ (d k fuel : Nat) (listed : Array Bool) (a : Act) (w : World), m ≤ k → k + d = ops.size → listed.size = ops.size → (∀ j, j < ops.size → listed.getD j true = decide (j < k)) →
    wpOps P ops Q (List.range' k d) a w → d ≤ fuel → wpAny P .any ops Q fuel listed a w := by
  obtain ⟨hns, hmp, hpm, hdn, hch, hap⟩ := frontB_spec hF
  intro d
  induction d with
  | zero =>
    intro k fuel listed a w hk hd hsz hl h _
    have hr : Region.ready .any ops listed = [] := by
      rw [List.eq_nil_iff_forall_not_mem]
      intro i hi
      obtain ⟨h0, o, ho, _⟩ := mem_ready.1 hi
      have hi' := (Array.getElem?_eq_some_iff.1 ho).1
      rw [hl i hi'] at h0
      simp at h0; omega
    cases fuel with
    | zero => exact ⟨hr, h⟩
    | succ fuel => exact ⟨fun _ => h, fun i hi => by rw [hr] at hi; cases hi⟩
  | succ d ih =>
    intro k fuel listed a w hk hd hsz hl h hf
    have hkn : k < ops.size := by omega
    have hnot : ∀ j, j < ops.size → listed.getD j false = decide (j < k) := by
      intro j hj
      have := hl j hj
      have hj' : j < listed.size := by omega
      simp [hj'] at this ⊢
      exact this
    cases fuel with
    | zero => omega
    | succ fuel =>
      have hkr : k ∈ Region.ready .any ops listed := by
        refine mem_ready.2 ⟨by rw [hl k hkn]; simp, ops[k], Array.getElem?_eq_getElem hkn, fun e he hb => ?_⟩
        have := hdn k _ (Array.getElem?_eq_getElem hkn) e he hb
        rw [hnot _ (by omega)]; simpa using this
      refine ⟨fun h0 => (by rw [h0] at hkr; cases hkr), fun i hi => ?_⟩
      obtain ⟨h0, o, ho, hall⟩ := mem_ready.1 hi
      have hin := (Array.getElem?_eq_some_iff.1 ho).1
      rw [hl i hin] at h0
      have hik : k ≤ i := by simpa using h0
      have : i = k := by
        rcases Nat.lt_or_eq_of_le hik with hlt | he
        · exfalso
          have := waits_listed (hch i o ho (by omega)) hall
          rw [hnot _ (by omega)] at this; simp at this; omega
        · exact he.symm
      subst this
      rw [List.range'_succ, wpOps_cons] at h
      refine wpOp_mono (fun a' w' h' => ih (i + 1) fuel _ a' w' (by omega) (by omega) (by simpa using hsz) (fun j hj => ?_) h' (by omega)) h
      by_cases e : i = j
      · subst e
        have : i < listed.size := by omega
        simp [this]
      · rw [getD_set_ne true e, hl j hj]
        congr 1
        apply propext; omega
variable {m p : Nat}
theorem any_front (hF : frontB ops m p = true) : ∀ (n k fuel : Nat) (listed : Array Bool) (a : Act) (w : World), C w → (unH ops listed m).length + (p - k) = n → m ≤ k → k ≤ p →
    listed.size = ops.size → (∀ j, m ≤ j → j < ops.size → listed.getD j true = decide (j < k)) →
    wpPure P ops C (opsAt ops (unH ops listed m)) (fun a' => wpLoud P ops C (fun a w => wpOps P ops Q (List.range' p (ops.size - p)) a w) (opsAt ops (List.range' k (p - k))) a' w) a → n + (ops.size - p) ≤ fuel → wpAny P .any ops Q fuel listed a w := by
  obtain ⟨hns, hmp, hpm, hdn, hch, hap⟩ := frontB_spec hF
  have hsel : ∀ (j : Nat) (q : Oper), ops[j]? = some q → ∀ cs b, q.op ≠ .select cs b := fun j q hq cs b => Region.noSelect_spec hns j q cs b hq
  intro n
  induction n with
  | zero =>
    intro k fuel listed a w hc hn hmk hkp hsz hl h hf
    have hu : unH ops listed m = [] := List.eq_nil_of_length_eq_zero (by omega)
    have hk : k = p := by omega
    subst hk
    rw [hu, Nat.sub_self] at h
    refine front_tail hF (ops.size - k) k fuel listed a w hmk (by omega) hsz (fun j hj => ?_) h (by omega)
    rcases Nat.lt_or_ge j m with h1 | h1
    · have : j ∉ unH ops listed m := by rw [hu]; exact List.not_mem_nil
      rw [mem_unH] at this
      simp [h1] at this
      have hj' : j < listed.size := by omega
      simp [hj'] at this ⊢
      rw [this]; simp; omega
    · exact hl j h1 hj
  | succ n ih =>
    intro k fuel listed a w hc hn hmk hkp hsz hl h hf
    have hgd : ∀ j, j < ops.size → listed.getD j true = false → listed.getD j false = false := by
      intro j hj h1
      have hj' : j < listed.size := by omega
      simp [hj'] at h1 ⊢; exact h1
    have hgt : ∀ j, j < ops.size → listed.getD j false = false → listed.getD j true = false := by
      intro j hj h1
      have hj' : j < listed.size := by omega
      simp [hj'] at h1 ⊢; exact h1
    cases fuel with
    | zero => omega
    | succ fuel =>
      refine ⟨fun h0 => ?_, fun i hi => ?_⟩
      · exfalso
        cases hu : unH ops listed m with
        | nil =>
          rw [hu] at hn
          have hkn : k < p := by simp at hn; omega
          have hks : k < ops.size := by omega
          have : k ∈ Region.ready .any ops listed := by
            refine mem_ready.2 ⟨by rw [hl k hmk hks]; simp, ops[k], Array.getElem?_eq_getElem hks, fun e he hb => ?_⟩
            have hlt := hdn k _ (Array.getElem?_eq_getElem hks) e he hb
            cases hx : listed.getD e.on false
            · exfalso
              have hx' := hgt _ (by omega) hx
              rcases Nat.lt_or_ge e.on m with h1 | h1
              · have := (mem_unH (ops := ops)).2 (show e.on < m ∧ listed.getD e.on true = false from ⟨h1, hx'⟩)
                rw [hu] at this; cases this
              · rw [hl _ h1 (by omega)] at hx'; simp at hx'; omega
            · rfl
          rw [h0] at this; cases this
        | cons i rest =>
          have hs := unH_sorted (ops := ops) listed m
          have hmem := mem_unH.1 (show i ∈ unH ops listed m by rw [hu]; exact List.mem_cons_self ..)
          have hin : i < ops.size := by omega
          have : i ∈ Region.ready .any ops listed := by
            refine mem_ready.2 ⟨hmem.2, ops[i], Array.getElem?_eq_getElem hin, fun e he hb => ?_⟩
            have hlt := hdn i _ (Array.getElem?_eq_getElem hin) e he hb
            cases hx : listed.getD e.on false
            · exfalso
              have hm2 : e.on ∈ unH ops listed m := mem_unH.2 ⟨by omega, hgt _ (by omega) hx⟩
              rw [hu] at hm2 hs
              rcases List.mem_cons.1 hm2 with h1 | h1
              · omega
              · have := (List.pairwise_cons.1 hs).1 _ h1; omega
            · rfl
          rw [h0] at this; cases this
      · obtain ⟨h0, o, ho, hall⟩ := mem_ready.1 hi
        have hin := (Array.getElem?_eq_some_iff.1 ho).1
        have hno : ∀ j, j < ops.size → listed.getD j true = false → waitsOn o j = true → False := fun j hj hx hw => by
          have := waits_listed hw hall
          rw [hgd j hj hx] at this; cases this
        rcases Nat.lt_or_ge i m with him | him
        · obtain ⟨pre, post, he, hpre, hset⟩ := unH_split (ops := ops) (mem_unH.2 ⟨him, h0⟩)
          have hlen : (unH ops (listed.setIfInBounds i true) m).length + 1 = (unH ops listed m).length := by rw [hset, he]; simp; omega
          rw [he, opsAt_append, opsAt_cons _ ho] at h
          have h2 := wpPure_take (hsel i o ho) (opsAt ops pre) (fun q hq => by
            obtain ⟨j, hj, hjq⟩ := List.mem_filterMap.1 hq
            have hjq' : ops[j]? = some q := hjq
            refine ⟨?_, hsel j q hjq'⟩
            rcases hap i o ho (by omega) j q (hpre j hj) (by have := hpre j hj; omega) hjq' with h3 | ⟨_, h3⟩
            · exact (hno j (Array.getElem?_eq_some_iff.1 hjq').1 (mem_unH.1 (show j ∈ unH ops listed m by rw [he]; exact List.mem_append_left _ hj)).2 h3).elim
            · exact h3) a h
          rw [← opsAt_append, ← hset] at h2
          refine pureOne_wp ho hc (fun a' h' => ih k fuel _ a' w hc (by omega) hmk hkp (by simpa using hsz) (fun j h1 h2 => ?_) h' (by omega)) h2
          rw [getD_set_ne true (by omega)]; exact hl j h1 h2
        · have hki : k ≤ i := by rw [hl i him hin] at h0; simpa using h0
          have hik : i = k := by
            rcases Nat.lt_or_eq_of_le hki with h1 | h1
            · exact (hno (i - 1) (by omega) (by rw [hl (i - 1) (by omega) (by omega)]; simp; omega) (hch i o ho (by omega))).elim
            · exact h1.symm
          have hip : i < p := by
            rcases Nat.lt_or_ge i p with h1 | h1
            · exact h1
            · exfalso
              have hiq : i = p := by omega
              cases hu : unH ops listed m with
              | nil => rw [hu] at hn; simp at hn; omega
              | cons j rest =>
                have hmem := mem_unH.1 (show j ∈ unH ops listed m by rw [hu]; exact List.mem_cons_self ..)
                rcases hap i o ho (by omega) j ops[j] (by omega) hmem.1 (Array.getElem?_eq_getElem (by omega)) with h3 | ⟨h3, _⟩
                · exact hno j (by omega) hmem.2 h3
                · omega
          subst hik
          have hr : opsAt ops (List.range' i (p - i)) = o :: opsAt ops (List.range' (i + 1) (p - (i + 1))) := by
            rw [show p - i = (p - (i + 1)) + 1 by omega, List.range'_succ, opsAt_cons _ ho]
          rw [hr] at h
          have h2 := wpPure_loud (hsel i o ho) (opsAt ops (unH ops listed m)) (fun q hq => by
            obtain ⟨j, hj, hjq⟩ := List.mem_filterMap.1 hq
            have hjq' : ops[j]? = some q := hjq
            have hjm := mem_unH.1 hj
            refine ⟨?_, hsel j q hjq'⟩
            rcases hap i o ho (by omega) j q (by omega) hjm.1 hjq' with h3 | ⟨_, h3⟩
            · exact (hno j (by omega) hjm.2 h3).elim
            · exact h3) a h
          have hset : unH ops (listed.setIfInBounds i true) m = unH ops listed m := by
            unfold unH
            refine List.filter_congr fun j hj => ?_
            have := List.mem_range.1 hj
            rw [getD_set_ne true (by omega)]
          refine loudOne_wp ho (fun a' w' h' => ?_) h2
          obtain ⟨_, hc', _⟩ := wpPure_some _ _ h'
          refine ih (i + 1) fuel _ a' w' hc' (by rw [hset]; omega) (by omega) (by omega) (by simpa using hsz) (fun j h1 h2 => ?_) ?_ (by omega)
          · by_cases e : i = j
            · subst e
              have : i < listed.size := by omega
              simp [this]
            · rw [getD_set_ne true e, hl j h1 h2]
              congr 1
              apply propext; omega
          · rw [hset]
            exact wpPure_mono (fun a'' h'' => h''.2) _ _ h'
/-- THE LAW. 'm': how many operations only look; 'p': where the tail begins. -/
theorem wp_region_front {id : Nat} {l : List Oper} {a : Act} {w : World} (m p : Nat) (C : World → Prop) (hm : P.follows .mixedOrders = true) (hF : frontB l.toArray m p = true)
    (hC : C w.drew) (h : wpPure P l.toArray C (l.take m) (fun a' => wpLoud P l.toArray C (fun a w => wpList P l.toArray Q (l.drop p) a w) ((l.take p).drop m) a' w.drew) a) : (Code.region id l.toArray true).wp P Q a w := by
  have hpl : p ≤ l.length := by simpa using (frontB_spec hF).2.2.1
  have hmp := (frontB_spec hF).2.1
  refine wp_region_any hm (any_front (C := C) hF _ m _ _ _ _ hC rfl (Nat.le_refl _) hmp (by simp) (fun j h1 hj => ?_) ?_ ?_)
  · have : j < l.length := by simpa using hj
    simp [this]; omega
  · have hu : unH l.toArray (Array.replicate l.toArray.size false) m = List.range m := by
      unfold unH
      refine List.filter_eq_self.2 fun i hi => ?_
      have : i < l.length := by have := List.mem_range.1 hi; omega
      simp [this]
    have ht : ∀ q, q ≤ l.length → opsAt l.toArray (List.range q) = l.take q := by
      intro q hq
      clear h hu hF hC
      unfold opsAt
      induction q with
      | zero => simp
      | succ k ih =>
        rw [List.range_succ, List.filterMap_append, ih (by omega), List.take_succ_eq_append_getElem (by omega)]
        simp [show k < l.length by omega]
    have hd : opsAt l.toArray (List.range' m (p - m)) = (l.take p).drop m := by
      have h1 := ht p hpl
      have h2 : List.range p = List.range m ++ List.range' m (p - m) := by
        have h3 := List.range'_append_1 (s := 0) (m := m) (n := p - m)
        rw [Nat.zero_add, Nat.add_sub_cancel' hmp] at h3
        rw [List.range_eq_range', List.range_eq_range', h3]
      rw [h2, opsAt_append, ht m (by omega)] at h1
      rw [← h1]
      rw [List.drop_append_of_le_length (by simp; omega), List.drop_of_length_le (by simp; omega), List.nil_append]
    rw [hu, ht m (by omega), hd]
    have he : ∀ a w, wpOps P l.toArray Q (List.range' p (l.toArray.size - p)) a w = wpList P l.toArray Q (l.drop p) a w := fun a w => by
      rw [← wpOps_eq_wpList (P := P) (Q := Q) (ops := l.toArray) (l.drop p) p (fun j => by simp [List.getElem?_drop])]
      simp
    simp only [he]
    exact h
  · have : (unH l.toArray (Array.replicate l.toArray.size false) m).length ≤ m := by
      unfold unH; exact Nat.le_trans (List.length_filter_le _ _) (by simp)
    simp at *; omega
theorem wpPure_nil {K : Act → Prop} {a : Act} (h : K a) : wpPure P ops C [] K a := h
theorem wpPure_cons {o : Oper} {rest : List Oper} {K : Act → Prop} {a : Act} (v : Value) (hw : Region.wanted o (yielded ops a.tmps) = true) (h : ∀ w, C w → PureRun v w ((execOp a.eval o).run P w))
    (hk : wpPure P ops C rest K (a.put o.dst v)) : wpPure P ops C (o :: rest) K a := .inl ⟨hw, v, h, hk⟩
theorem wpLoud_nil {T : Act → World → Prop} {a : Act} {w : World} (h : T a w) : wpLoud P ops C T [] a w := h
theorem wpLoud_cons {T : Act → World → Prop} {p : Oper} {rest : List Oper} {a : Act} {w : World} (hw : Region.wanted p (yielded ops a.tmps) = true)
    (h : LoudRun P (fun v w' => C w' ∧ wpLoud P ops C T rest (a.put p.dst v) w') ((execOp a.eval p).run P w)) : wpLoud P ops C T (p :: rest) a w := .inl ⟨hw, h⟩
/-- append onto an owned slice of what a new row shows. -/
theorem loud_append {o : Oper} {a : Act} {w : World} {K : Value → World → Prop} (s x : Operand) (t : TypeId) (ho : o.op = .call { callee := .builtin .append, args := #[s, x], argTypes := #[t, t] })
    (base : Nat) (e : TypeId) (z : Value) (size bytes : Nat) (ht : P.underlying t = some (.slice e)) (hinfo : (P.info? e).map (fun i => (i.zero, i.size, i.bytes)) = some (some z, size, bytes))
    (hzs : z.cells.size = size) (hsz : 0 < size)
    (v : Value) (n : Nat) (xs : List Value) (hs : a.eval s = v) (hown : w.ownsRow base e size v n xs)
    (ad : Addr) (m c : Nat) (news : List Value) (hx : a.eval x = .slice (some ad) m c) (hl : news.length = m * size) (hsl : Sl w (some ad) news) (h1 : ∀ u ∈ news, u.oneCell' = true)
    (h63 : n + m ≤ maxLen) (hbytes : (n + m) * bytes ≤ 140737488355328) (hbase : base ≤ w.heap.size)
    (h : ∀ v' w', w'.ownsRow base e size v' (n + m) (xs ++ news) → w.grownBy w' v.ownBlock → K v' w') : LoudRun P K ((execOp a.eval o).run P w) := by
  obtain ⟨i, hi, hz, hsize, hby⟩ := info_parts hinfo
  obtain ⟨v', w', hr, h2, h3, _, h5⟩ := run_append_own_at (P := P) w base t o.type e i z size bytes ht hi hz hsize hby hzs hsz v n xs hown ad m c news hl hsl.cells h1 h63 hbytes hbase
  unfold execOp
  simp only [ho, resolve, invoke, builtin, Sem.run_bind, Sem.run_pure, Result.andThen_ok, List.map_toArray, List.map_cons, List.map_nil, hs, hx, hr]
  exact h v' w' h2 h3
end
end Go.K
