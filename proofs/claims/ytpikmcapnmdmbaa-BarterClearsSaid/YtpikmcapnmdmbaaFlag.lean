/-
  A region that draws its order, without guards, walked once in the order of the text, in which a store may come ahead of others that don't mind: a class of worlds ahead of the store, one behind it; each operation yields one value in all worlds of either class
-/
import Derived.Test.YtpikmcapnmdmbaaReg
namespace Go.K
set_option linter.unusedVariables false
set_option linter.unusedSimpArgs false

section
variable {P : Program} {ops : Array Oper} {F : Bool → World → Prop} {mk : Oper → Bool} {Q : Exit → Act → World → Prop}
/-- What one operation does from a frame, and what is asked behind it. -/
def flagOne (P : Program) (ops : Array Oper) (F : Bool → World → Prop) (mk : Oper → Bool) (o : Oper) (a : Act) (K : Act → Prop) : Prop :=
  Region.wanted o (yielded ops a.tmps) = true ∧ ∃ v, (∀ b w, F b w → InvRun P (F (b || mk o)) v ((execOp a.eval o).run P w)) ∧ K (a.put o.dst v)
/-- Operations, one behind the other, from a frame. -/
def wpFlag (P : Program) (ops : Array Oper) (F : Bool → World → Prop) (mk : Oper → Bool) (T : Act → Prop) : List Oper → Act → Prop
  | [], a => T a
  | o :: rest, a => flagOne P ops F mk o a (wpFlag P ops F mk T rest)
variable {T : Act → Prop}
theorem wpFlag_nil {a : Act} (h : T a) : wpFlag P ops F mk T [] a := h
theorem wpFlag_cons {o : Oper} {rest : List Oper} {a : Act} (v : Value) (hw : Region.wanted o (yielded ops a.tmps) = true) (h : ∀ b w, F b w → InvRun P (F (b || mk o)) v ((execOp a.eval o).run P w))
    (hk : wpFlag P ops F mk T rest (a.put o.dst v)) : wpFlag P ops F mk T (o :: rest) a := ⟨hw, v, h, hk⟩
theorem flagOne_mono {o : Oper} {a : Act} {K K' : Act → Prop} (h : ∀ a, K a → K' a) (hh : flagOne P ops F mk o a K) : flagOne P ops F mk o a K' := by
  obtain ⟨h1, v, h2, h3⟩ := hh
  exact ⟨h1, v, h2, h _ h3⟩
/-- Two operations that are apart change places. -/
theorem flagOne_swap {o p : Oper} (hap : o.apart ops p = true) (hso : ∀ cs b, o.op ≠ .select cs b) (hsp : ∀ cs b, p.op ≠ .select cs b) {a : Act} {K : Act → Prop}
    (h : flagOne P ops F mk p a (fun a' => flagOne P ops F mk o a' K)) : flagOne P ops F mk o a (fun a' => flagOne P ops F mk p a' K) := by
  obtain ⟨h1, h2, h3⟩ := Oper.apart_spec hap
  have keyO : ∀ u, execOp (a.put p.dst u).eval o = execOp a.eval o := fun u => execOp_put o hso a p.dst u h3
  have keyP : ∀ u, execOp (a.put o.dst u).eval p = execOp a.eval p := fun u => execOp_put p hsp a o.dst u h1
  have wO : ∀ u, Region.wanted o (yielded ops (a.put p.dst u).tmps) = Region.wanted o (yielded ops a.tmps) := fun u => wanted_put o a p.dst u h3
  have wP : ∀ u, Region.wanted p (yielded ops (a.put o.dst u).tmps) = Region.wanted p (yielded ops a.tmps) := fun u => wanted_put p a o.dst u h1
  obtain ⟨hp, u, hu, hw, v, hv, hk⟩ := h
  rw [wO] at hw
  refine ⟨hw, v, fun b w hc => by have := hv b w hc; rwa [keyO] at this, by rw [wP]; exact hp, u, fun b w hc => by rw [keyP]; exact hu b w hc, ?_⟩
  rw [Act.put_comm a v u h2]; exact hk
theorem wpFlag_take {o : Oper} (hso : ∀ cs b, o.op ≠ .select cs b) {post : List Oper} : ∀ (pre : List Oper), (∀ p ∈ pre, o.apart ops p = true ∧ ∀ cs b, p.op ≠ .select cs b) →
    ∀ a, wpFlag P ops F mk T (pre ++ o :: post) a → flagOne P ops F mk o a (wpFlag P ops F mk T (pre ++ post))
  | [], _, _, h => h
  | p :: pre, hp, a, h => by
    have h' : flagOne P ops F mk p a (wpFlag P ops F mk T (pre ++ o :: post)) := h
    have h2 := flagOne_mono (K' := fun a' => flagOne P ops F mk o a' (wpFlag P ops F mk T (pre ++ post))) (fun a' h3 => wpFlag_take hso pre (fun q hq => hp q (List.mem_cons_of_mem _ hq)) a' h3) h'
    exact flagOne_swap (hp p (List.mem_cons_self ..)).1 hso (hp p (List.mem_cons_self ..)).2 h2
theorem flagOne_wp {i : Nat} {o : Oper} (ho : ops[i]? = some o) {a : Act} {w : World} {K : Act → Prop} {K' : Act → World → Prop} {b : Bool} (hw : F b w) (hk : ∀ a w, F (b || mk o) w → K a → K' a w) (h : flagOne P ops F mk o a K) : wpOp P ops Q i K' a w := by
  unfold wpOp
  rw [ho]
  dsimp only
  obtain ⟨h1, v, h2, h3⟩ := h
  rw [if_pos h1]
  left
  have h4 := h2 b w hw
  unfold Oper.wp
  generalize (execOp a.eval o).run P w = r at h4
  cases r with
  | ok n w' =>
    cases n <;> simp only [InvRun] at h4 <;> simp only [Oper.upon]
    case value u =>
      obtain ⟨hc, rfl⟩ := h4
      exact hk _ _ hc h3
    case skip =>
      obtain ⟨hc, rfl⟩ := h4
      exact hk _ _ hc h3
    case enter f args =>
      exact h4.mono fun e w'' ⟨he, hc⟩ => by subst he; exact hk _ _ hc h3
  | halt x w' => simp only [InvRun] at h4
variable {m : Nat}
theorem any_flag (c : Bool) (hB : regB ops m = true) (hT : ∀ a w, F c w → T a → wpOps P ops Q (List.range' m (ops.size - m)) a w) : ∀ (n fuel : Nat) (listed : Array Bool) (a : Act) (w : World) (b : Bool), F b w → (b || (opsAt ops (unH ops listed m)).any mk) = c → (unH ops listed m).length = n →
    listed.size = ops.size → (∀ j, m ≤ j → j < ops.size → listed.getD j true = false) → wpFlag P ops F mk T (opsAt ops (unH ops listed m)) a → n + (ops.size - m) ≤ fuel → wpAny P .any ops Q fuel listed a w := by
  obtain ⟨hns, hm, hdn, hap⟩ := regB_spec hB
  intro n
  induction n with
  | zero =>
    intro fuel listed a w b hc hbc hn hsz htl h hf
    have hnil : unH ops listed m = [] := List.eq_nil_of_length_eq_zero hn
    rw [hnil] at h hbc
    have hbc' : b = c := by simpa [opsAt] using hbc
    subst hbc'
    refine any_tail hB (ops.size - m) m fuel listed a w (Nat.le_refl _) (by omega) hsz (fun j hj => ?_) (hT a w hc h) (by omega)
    rcases Nat.lt_or_ge j m with h1 | h1
    · have : j ∉ unH ops listed m := by rw [hnil]; exact List.not_mem_nil
      rw [mem_unH] at this
      simp [h1] at this
      have hj' : j < listed.size := by omega
      simp [hj'] at this ⊢
      rw [this]; simp [h1]
    · rw [htl j h1 hj]; simp; omega
  | succ n ih =>
    intro fuel listed a w b hc hbc hn hsz htl h hf
    have hgd : ∀ j, j < ops.size → listed.getD j true = false → listed.getD j false = false := by
      intro j hj h1
      have hj' : j < listed.size := by omega
      simp [hj'] at h1 ⊢; exact h1
    have hgt : ∀ j, j < ops.size → listed.getD j false = false → listed.getD j true = false := by
      intro j hj h1
      have hj' : j < listed.size := by omega
      simp [hj'] at h1 ⊢; exact h1
    cases fuel with
    | zero => omega
    | succ fuel =>
      refine ⟨fun h0 => ?_, fun i hi => ?_⟩
      · exfalso
        cases hu : unH ops listed m with
        | nil => rw [hu] at hn; cases hn
        | cons i rest =>
          have hs := unH_sorted (ops := ops) listed m
          have hmem := mem_unH.1 (show i ∈ unH ops listed m by rw [hu]; exact List.mem_cons_self ..)
          have hin : i < ops.size := by omega
          have : i ∈ Region.ready .any ops listed := by
            refine mem_ready.2 ⟨hmem.2, ops[i], Array.getElem?_eq_getElem hin, fun e he hb => ?_⟩
            have hlt := hdn i _ (Array.getElem?_eq_getElem hin) e he hb
            cases hx : listed.getD e.on false
            · exfalso
              have hm2 : e.on ∈ unH ops listed m := mem_unH.2 ⟨by omega, hgt _ (by omega) hx⟩
              rw [hu] at hm2 hs
              rcases List.mem_cons.1 hm2 with h1 | h1
              · omega
              · have := (List.pairwise_cons.1 hs).1 _ h1; omega
            · rfl
          rw [h0] at this; cases this
      · obtain ⟨h0, o, ho, hall⟩ := mem_ready.1 hi
        have hin := (Array.getElem?_eq_some_iff.1 ho).1
        have him : i < m := by
          rcases Nat.lt_or_ge i m with h1 | h1
          · exact h1
          · exfalso
            cases hu : unH ops listed m with
            | nil => rw [hu] at hn; cases hn
            | cons j rest =>
              have hmem := mem_unH.1 (show j ∈ unH ops listed m by rw [hu]; exact List.mem_cons_self ..)
              have hjn : j < ops.size := by omega
              rcases hap i o ho j ops[j] (by omega) (Array.getElem?_eq_getElem hjn) with h2 | ⟨h2, _⟩
              · have := waits_listed h2 hall
                rw [hgd j hjn hmem.2] at this; cases this
              · omega
        obtain ⟨pre, post, he, hpre, hset⟩ := unH_split (ops := ops) (mem_unH.2 ⟨him, h0⟩)
        have hsel : ∀ (j : Nat) (p : Oper), ops[j]? = some p → ∀ cs b, p.op ≠ .select cs b := fun j p hp cs b => Region.noSelect_spec hns j p cs b hp
        rw [he, opsAt_append, opsAt_cons _ ho] at h hbc
        have h2 := wpFlag_take (hsel i o ho) (opsAt ops pre) (fun p hp => by
          obtain ⟨j, hj, hjp⟩ := List.mem_filterMap.1 hp
          have hjp' : ops[j]? = some p := hjp
          refine ⟨?_, hsel j p hjp'⟩
          rcases hap i o ho j p (hpre j hj) hjp' with h3 | ⟨_, h3⟩
          · exfalso
            have := waits_listed h3 hall
            have hju : j ∈ unH ops listed m := by rw [he]; exact List.mem_append_left _ hj
            rw [hgd j (Array.getElem?_eq_some_iff.1 hjp').1 (mem_unH.1 hju).2] at this; cases this
          · exact h3) a h
        rw [← opsAt_append, ← hset] at h2
        refine flagOne_wp ho hc (fun a' w' hc' h' => ih fuel _ a' w' (b || mk o) hc' ?_ ?_ (by simpa using hsz) (fun j h1 h2 => ?_) h' (by omega)) h2
        · rw [hset, opsAt_append, ← hbc]
          simp only [List.any_append, List.any_cons]
          cases b <;> cases mk o <;> simp
        · rw [hset]; rw [he] at hn; simp at hn ⊢; omega
        · rw [getD_set_ne true (by omega)]; exact htl j h1 h2
end
/-- THE LAW. 'm': where the tail begins; F false: the worlds ahead of the store, F true: behind it. -/
theorem wp_region_flag {P : Program} {id : Nat} {l : List Oper} {Q : Exit → Act → World → Prop} {a : Act} {w : World} (m : Nat) (F : Bool → World → Prop) (mk : Oper → Bool) (hm : P.follows .mixedOrders = true) (hB : regB l.toArray m = true)
    (hmk : (l.take m).any mk = true) (hC : ∀ n, F false { w with drawn := n }) (h : wpFlag P l.toArray F mk (fun a => ∀ w, F true w → wpList P l.toArray Q (l.drop m) a w) (l.take m) a) : (Code.region id l.toArray true).wp P Q a w := by
  have hml : m ≤ l.length := by simpa using (regB_spec hB).2.1
  have hu : unH l.toArray (Array.replicate l.toArray.size false) m = List.range m := by
    unfold unH
    refine List.filter_eq_self.2 fun i hi => ?_
    have : i < l.length := by have := List.mem_range.1 hi; omega
    simp [this]
  have hop : opsAt l.toArray (List.range m) = l.take m := by
    clear h hu hB hC hmk
    unfold opsAt
    induction m with
    | zero => simp
    | succ k ih =>
      rw [List.range_succ, List.filterMap_append, ih (by omega), List.take_succ_eq_append_getElem (by omega)]
      simp [show k < l.length by omega]
  refine wp_region_any hm (any_flag (mk := mk) (T := fun a => ∀ w, F true w → wpList P l.toArray Q (l.drop m) a w) true hB (fun a w hc ht => ?_) _ _ _ _ _ false (hC _) ?_ rfl (by simp) (fun j _ hj => ?_) ?_ ?_)
  · have he := wpOps_eq_wpList (P := P) (Q := Q) (ops := l.toArray) (l.drop m) m (fun j => by simp [List.getElem?_drop])
    have h1 := ht w hc
    rw [← he] at h1
    simpa using h1
  · rw [hu, hop, hmk]; rfl
  · have : j < l.length := by simpa using hj
    simp [this]
  · rw [hu, hop]; exact h
  · have : (unH l.toArray (Array.replicate l.toArray.size false) m).length ≤ m := by
      unfold unH; exact Nat.le_trans (List.length_filter_le _ _) (by simp)
    simp at *; omega
end Go.K
