/-
  Layer 22, no program: in any other order each gets the same item.
-/
import Derived.Test.YtpikmcapnmdmbaaPe
namespace Go.Proofs.Ytpikmcapnmdmbaa
open Go.RowKit Go.K
set_option linter.unusedVariables false
set_option linter.unusedSimpArgs false
variable {n : Nat} {F : (Nat → Bool) → Nat → Nat} {is : List Int} {ws ws' : List (List Int)} {cs cs2 csf : List (List Nat)} {D D2 Df : Nat → Bool} {N1 N2 : Nat → Nat} {G G' : Nat → Int}
/-- Rounds of rings, whichever comes first. -/
inductive RunR (n : Nat) (F : (Nat → Bool) → Nat → Nat) : List (List Nat) → (Nat → Bool) → Prop
  | nil : RunR n F [] (fun _ => false)
  | snoc {cs : List (List Nat)} {D : Nat → Bool} {c : List Nat} : RunR n F cs D → Ring n (F D) D c → RunR n F (cs ++ [c]) (gadd D c)
theorem RunTo.toR (h : RunTo n F cs D) : RunR n F cs D := by
  induction h with
  | nil => exact .nil
  | snoc h1 h2 ih => exact .snoc ih h2.toRing
theorem RunR.gone' (h : RunR n F cs D) : ∀ i, D i = true → ∃ c ∈ cs, i ∈ c := by
  induction h with
  | nil => intro i hi; cases hi
  | @snoc cs D c h1 h2 ih =>
    intro i hi
    rcases gadd_true.1 hi with e | e
    · obtain ⟨c', hc, hi'⟩ := ih i e
      exact ⟨c', List.mem_append_left _ hc, hi'⟩
    · exact ⟨c, List.mem_append_right _ (List.mem_singleton.2 rfl), e⟩
theorem RunR.goneT (h : RunR n F cs D) : ∀ c ∈ cs, ∀ i ∈ c, D i = true := by
  induction h with
  | nil => intro c hc; cases hc
  | snoc h1 h2 ih =>
    intro c hc i hi
    rcases List.mem_append.1 hc with e | e
    · exact gadd_true.2 (.inl (ih c e i hi))
    · rw [List.mem_singleton.1 e] at hi
      exact gadd_true.2 (.inr hi)
theorem RunR.facts (h : RunR n F cs D) : ∀ c ∈ cs, 0 < c.length ∧ c.Nodup ∧ ∀ i ∈ c, i < n := by
  induction h with
  | nil => intro c hc; cases hc
  | snoc h1 h2 ih =>
    intro c hc
    rcases List.mem_append.1 hc with e | e
    · exact ih c e
    · rw [List.mem_singleton.1 e]; exact ⟨h2.pos, h2.nd, h2.lt⟩
theorem pred_inR (h : RunR n F cs D) (hN : ∀ c ∈ cs, ∀ k, k < c.length → N1 (c.getD k 0) = c.getD ((k + 1) % c.length) 0) {p : Nat} (hp : D p = true) : ∃ k, D k = true ∧ N1 k = p := by
  obtain ⟨c, hc, hpc⟩ := h.gone' p hp
  obtain ⟨q, hq, rfl⟩ := mem_getD hpc
  have hlt : (q + (c.length - 1)) % c.length < c.length := Nat.mod_lt _ (by omega)
  refine ⟨_, h.goneT c hc _ (getD_mem hlt), ?_⟩
  rw [hN c hc _ hlt, Nat.mod_add_mod, show q + (c.length - 1) + 1 = q + c.length by omega, Nat.add_mod_right, Nat.mod_eq_of_lt hq]
/-- Two runs of the same meet give each the same next one. -/
theorem consistR (hn : is.Nodup) (h1 : RunR is.length (pts is ws) cs D) (hf : RunR is.length (pts is ws) csf Df) (hall : ∀ i, i < is.length → Df i = true)
    (hN1 : ∀ c ∈ cs, ∀ k, k < c.length → N1 (c.getD k 0) = c.getD ((k + 1) % c.length) 0) (hN2 : ∀ c ∈ csf, ∀ k, k < c.length → N2 (c.getD k 0) = c.getD ((k + 1) % c.length) 0)
    (hinj : ∀ a b, a < is.length → b < is.length → N2 a = N2 b → a = b) : ∀ j, D j = true → N2 j = N1 j := by
  induction h1 with
  | nil => intro j hj; cases hj
  | @snoc cs D c h1 h2 ih =>
    have ih := ih (fun c hc => hN1 c (List.mem_append_left _ hc))
    have hNc : ∀ k, k < c.length → N1 (c.getD k 0) = c.getD ((k + 1) % c.length) 0 := hN1 c (List.mem_append_right _ (List.mem_singleton.2 rfl))
    have hN1D : ∀ c ∈ cs, ∀ k, k < c.length → N1 (c.getD k 0) = c.getD ((k + 1) % c.length) 0 := fun c hc => hN1 c (List.mem_append_left _ hc)
    have hltD : ∀ k, D k = true → k < is.length := fun k hk => by
      obtain ⟨c', hc', hk'⟩ := h1.gone' k hk
      exact (h1.facts c' hc').2.2 k hk'
    have key : ∀ j ∈ c, Df j = true → N2 j = N1 j := by
      clear hall
      induction hf with
      | nil => intro j _ hj; cases hj
      | @snoc csf D2 c2 hf1 hf2 ih2 =>
        have ih2 := ih2 (fun c hc => hN2 c (List.mem_append_left _ hc))
        intro j hjc hj
        rcases gadd_true.1 hj with e | e
        · exact ih2 j hjc e
        · have hD2j := hf2.left j e
          have hfree : ∀ q ∈ c, D2 q = false := by
            intro q hq
            cases hd : D2 q with
            | false => rfl
            | true =>
              exfalso
              obtain ⟨q0, hq0, rfl⟩ := mem_getD hq
              obtain ⟨j0, hj0, rfl⟩ := mem_getD hjc
              have hp : 0 < c.length := by omega
              have hgo : ∀ m, D2 (c.getD ((q0 + m) % c.length) 0) = true := by
                intro m
                induction m with
                | zero => rw [Nat.add_zero, Nat.mod_eq_of_lt hq0]; exact hd
                | succ m im =>
                  have hlt : (q0 + m) % c.length < c.length := Nat.mod_lt _ hp
                  have a1 := ih2 _ (getD_mem hlt) im
                  rw [hNc _ hlt, Nat.mod_add_mod] at a1
                  obtain ⟨c3, hc3, h3⟩ := hf1.gone' _ im
                  obtain ⟨r, hr, hre⟩ := mem_getD h3
                  have a2 := hN2 c3 (List.mem_append_left _ hc3) r hr
                  rw [hre, a1] at a2
                  rw [← Nat.add_assoc, a2]
                  exact hf1.goneT c3 hc3 _ (getD_mem (Nat.mod_lt _ (by omega)))
              have := hgo (j0 + c.length - q0)
              rw [show q0 + (j0 + c.length - q0) = j0 + c.length by omega, Nat.add_mod_right, Nat.mod_eq_of_lt hj0, hD2j] at this
              cases this
          have hDj := h2.left j hjc
          obtain ⟨k, hk, hkj⟩ := mem_getD hjc
          have e1 : N1 j = pts is ws D j := by rw [← hkj, hNc k hk, ← h2.nxt k hk]
          have e2 : N2 j = pts is ws D2 j := by
            obtain ⟨k2, hk2, rfl⟩ := mem_getD e
            rw [hN2 c2 (List.mem_append_right _ (List.mem_singleton.2 rfl)) k2 hk2, ← hf2.nxt k2 hk2]
          obtain ⟨l1, l2, s1, s2⟩ := pts_split (ws := ws) hn hDj
          obtain ⟨m1, m2, t1, t2⟩ := pts_split (ws := ws) hn hD2j
          rw [← e2] at t1
          rw [← e1] at s1
          have hpc : N1 j ∈ c := by rw [← hkj, hNc k hk]; exact getD_mem (Nat.mod_lt _ (by omega))
          have a1 : (ord is (ws.getD j []) j).idxOf (N2 j) ≤ m1.length := by rw [t1]; exact idxOf_le
          have a2 : m1.length ≤ (ord is (ws.getD j []) j).idxOf (N1 j) := by
            rw [t1]; exact idxOf_out (fun hm => by have := t2 _ hm; rw [hfree _ hpc] at this; cases this)
          have a3 : (ord is (ws.getD j []) j).idxOf (N1 j) ≤ l1.length := by rw [s1]; exact idxOf_le
          have a4 := Nat.le_trans a1 (Nat.le_trans a2 a3)
          rw [s1] at a4
          rcases idxOf_before a4 with hm | hm
          · exfalso
            obtain ⟨q, hq, hqe⟩ := pred_inR h1 hN1D (s2 _ hm)
            have a5 := ih q hq
            rw [hqe] at a5
            have a6 := hinj q j (hltD q hq) (h2.lt j hjc) a5
            rw [a6, hDj] at hq
            cases hq
          · exact hm
    intro j hj
    rcases gadd_true.1 hj with e | e
    · exact ih j e
    · exact key j e (hall j (h2.lt j e))
-- the meet in another order
theorem map_getD_at {α β : Type} (f : α → β) (l : List α) (i : Nat) (hi : i < l.length) (d : β) (e : α) : (l.map f).getD i d = f (l.getD i e) := by
  rw [List.getD_eq_getElem?_getD, List.getElem?_map, List.getElem?_eq_getElem hi, List.getD_eq_getElem?_getD, List.getElem?_eq_getElem hi]; rfl
theorem findSome_map {α β γ : Type} (g : α → Option β) (p : β → γ) (l : List α) : l.findSome? (fun x => (g x).map p) = (l.findSome? g).map p := by
  induction l with
  | nil => rfl
  | cons a l ih =>
    rw [List.findSome?_cons, List.findSome?_cons]
    cases g a with
    | none => exact ih
    | some b => rfl
structure Turn (n : Nat) (o : List Nat) : Prop where
  len : o.length = n
  nd : o.Nodup
  lt : ∀ a ∈ o, a < n
  all : ∀ a, a < n → a ∈ o
theorem Turn.of {n : Nat} {o : List Nat} (h : o.Perm (List.range n)) : Turn n o :=
  ⟨by rw [h.length_eq, List.length_range], h.nodup_iff.2 List.nodup_range, fun a ha => List.mem_range.1 (h.mem_iff.1 ha), fun a ha => h.mem_iff.2 (List.mem_range.2 ha)⟩
section
variable {o : List Nat}
theorem Turn.idx (h : Turn n o) {i : Nat} (hi : i < n) : o.idxOf (o.getD i 0) = i := idxOf_getD h.nd (by rw [h.len]; exact hi)
theorem Turn.at_ (h : Turn n o) {j : Nat} (hj : j < n) : o.idxOf j < n ∧ o.getD (o.idxOf j) 0 = j := by
  have h1 := List.idxOf_lt_length_of_mem (h.all j hj)
  refine ⟨by rw [← h.len]; exact h1, ?_⟩
  rw [List.getD_eq_getElem?_getD, List.getElem?_eq_getElem h1]
  exact List.getElem_idxOf h1
theorem Turn.in_ (h : Turn n o) {i : Nat} (hi : i < n) : o.getD i 0 < n := h.lt _ (getD_mem (by rw [h.len]; exact hi))
theorem Turn.live (h : Turn is.length o) (hn : is.Nodup) (hD : ∀ j, is.length ≤ j → D2 j = false) (x : Int) :
    liveAt is (fun j => D2 (o.idxOf j)) x = (liveAt (o.map (is.getD · 0)) D2 x).map (o.getD · 0) := by
  have hn2 : (o.map (is.getD · 0)).Nodup := by
    refine List.Pairwise.map _ ?_ (List.Pairwise.and_mem.1 h.nd)
    intro a b hab e
    exact hab.2.2 (nodup_getD hn (h.lt a hab.1) (h.lt b hab.2.1) e)
  unfold liveAt
  cases hf : is.findIdx? (· == x) with
  | none =>
    have hx : x ∉ o.map (is.getD · 0) := fun hm => by
      obtain ⟨a, ha, e⟩ := List.mem_map.1 hm
      have hal := h.lt a ha
      have hmem : x ∈ is := by rw [← e, List.getD_eq_getElem?_getD, List.getElem?_eq_getElem hal]; exact List.getElem_mem hal
      have := List.findIdx?_eq_none_iff.1 hf x hmem
      simp at this
    have hf2 : (o.map (is.getD · 0)).findIdx? (· == x) = none := List.findIdx?_eq_none_iff.2 (fun y hy => by
      rw [beq_eq_false_iff_ne]; exact fun e => hx (e ▸ hy))
    rw [hf2]; rfl
  | some j =>
    have hj := find_lt hf
    have hx := find_item hf
    obtain ⟨h1, h2⟩ := h.at_ hj
    have hl : o.idxOf j < (o.map (is.getD · 0)).length := by rw [List.length_map, h.len]; exact h1
    have hat := find_at hn2 (o.idxOf j) hl
    have e : (o.map (is.getD · 0))[o.idxOf j] = x := by
      rw [List.getElem_map, ← hx]
      have : o[o.idxOf j]'(by rw [h.len]; exact h1) = o.getD (o.idxOf j) 0 := by rw [List.getD_eq_getElem?_getD, List.getElem?_eq_getElem (by rw [h.len]; exact h1)]; rfl
      rw [this, h2]
    rw [e] at hat
    rw [hat]
    simp only
    by_cases hd : D2 (o.idxOf j) = true
    · rw [if_pos hd, if_pos hd]; rfl
    · rw [if_neg hd, if_neg hd]
      show some j = some (o.getD (o.idxOf j) 0)
      rw [h2]
theorem Turn.pts (h : Turn is.length o) (hn : is.Nodup) (hw : ws.length = is.length) (hD : ∀ j, is.length ≤ j → D2 j = false) {i : Nat} (hi : i < is.length) :
    pts is ws (fun j => D2 (o.idxOf j)) (o.getD i 0) = o.getD (pts (o.map (is.getD · 0)) (o.map (ws.getD · [])) D2 i) 0 := by
  unfold Go.Proofs.Ytpikmcapnmdmbaa.pts
  rw [map_getD_at (ws.getD · []) o i (by rw [h.len]; exact hi) [] 0]
  rw [show liveAt is (fun j => D2 (o.idxOf j)) = fun x => (liveAt (o.map (is.getD · 0)) D2 x).map (o.getD · 0) from funext fun x => h.live hn hD x, findSome_map]
  cases (ws.getD (o.getD i 0) []).findSome? (liveAt (o.map (is.getD · 0)) D2) <;> rfl
theorem Turn.run (h : Turn is.length o) (hn : is.Nodup) (hw : ws.length = is.length) (hr : RunTo is.length (Go.Proofs.Ytpikmcapnmdmbaa.pts (o.map (is.getD · 0)) (o.map (ws.getD · []))) cs2 D2) :
    RunR is.length (Go.Proofs.Ytpikmcapnmdmbaa.pts is ws) (cs2.map (·.map (o.getD · 0))) (fun j => D2 (o.idxOf j)) := by
  induction hr with
  | nil => exact .nil
  | @snoc cs D c h1 h2 ih =>
    have hD : ∀ j, is.length ≤ j → D j = false := fun j hj => by
      cases hd : D j with
      | false => rfl
      | true =>
        obtain ⟨c', hc', hj'⟩ := h1.gone' j hd
        have := (h1.facts c' hc').2.2 j hj'
        omega
    rw [List.map_append]
    have e : (fun j => gadd D c (o.idxOf j)) = gadd (fun j => D (o.idxOf j)) (c.map (o.getD · 0)) := by
      funext j
      unfold gadd
      congr 1
      rw [decide_eq_decide]
      refine ⟨fun hm => ?_, fun hm => ?_⟩
      · have hl := h2.lt _ hm
        have hjo : j ∈ o := by
          have : o.idxOf j < o.length := by rw [h.len]; exact hl
          exact List.idxOf_lt_length_iff.1 this
        rw [← (h.at_ (h.lt j hjo)).2]
        exact List.mem_map_of_mem hm
      · obtain ⟨a, ha, rfl⟩ := List.mem_map.1 hm
        rw [h.idx (h2.lt a ha)]; exact ha
    rw [e]
    refine .snoc ih ⟨by rw [List.length_map]; exact h2.pos, ?_, ?_, ?_, ?_⟩
    · refine List.Pairwise.map _ ?_ (List.Pairwise.and_mem.1 h2.nd)
      intro a b hab e
      have h3 := congrArg o.idxOf e
      rw [h.idx (h2.lt a hab.1), h.idx (h2.lt b hab.2.1)] at h3
      exact hab.2.2 h3
    · intro i hi
      obtain ⟨a, ha, rfl⟩ := List.mem_map.1 hi
      exact h.in_ (h2.lt a ha)
    · intro i hi
      obtain ⟨a, ha, rfl⟩ := List.mem_map.1 hi
      show D (o.idxOf (o.getD a 0)) = false
      rw [h.idx (h2.lt a ha)]; exact h2.left a ha
    · intro k hk
      rw [List.length_map] at hk ⊢
      have hm : (k + 1) % c.length < c.length := Nat.mod_lt _ h2.pos
      rw [map_getD_at (o.getD · 0) c k hk 0 0, map_getD_at (o.getD · 0) c _ hm 0 0, h.pts hn hw hD (h2.lt _ (getD_mem hk)), h2.nxt k hk]
/-- With the entries in another order each gets the same item. -/
theorem same_any (h : Turn is.length o) (hn : is.Nodup) (hw : ws.length = is.length) (h1 : RunTo is.length (pts is ws) cs D) (ha : ∀ i, i < is.length → D i = true) (hg : GotOk is cs G)
    (h2 : RunTo is.length (pts (o.map (is.getD · 0)) (o.map (ws.getD · []))) cs2 D2) (ha2 : ∀ i, i < is.length → D2 i = true) (hg2 : GotOk (o.map (is.getD · 0)) cs2 G') :
    ∀ i, i < is.length → G' i = G (o.getD i 0) := by
  intro i hi
  have hR := h.run hn hw h2
  have hlt2 : nextOf cs2 i < is.length := h2.nextLt h2.next i (ha2 i hi)
  have hN2 : ∀ c ∈ cs2.map (·.map (o.getD · 0)), ∀ k, k < c.length → o.getD (nextOf cs2 (o.idxOf (c.getD k 0))) 0 = c.getD ((k + 1) % c.length) 0 := by
    intro c hc k hk
    obtain ⟨c', hc', rfl⟩ := List.mem_map.1 hc
    rw [List.length_map] at hk ⊢
    have hf := h2.facts c' hc'
    have hm : (k + 1) % c'.length < c'.length := Nat.mod_lt _ hf.1
    rw [map_getD_at (o.getD · 0) c' k hk 0 0, map_getD_at (o.getD · 0) c' _ hm 0 0, h.idx (hf.2.2 _ (getD_mem hk)), h2.next c' hc' k hk]
  have key := consistR (N1 := fun j => o.getD (nextOf cs2 (o.idxOf j)) 0) (N2 := nextOf cs) hn hR h1.toR ha hN2 h1.next (inj_of h1 ha h1.next) (o.getD i 0) (by show D2 (o.idxOf (o.getD i 0)) = true; rw [h.idx hi]; exact ha2 i hi)
  rw [h.idx hi] at key
  obtain ⟨c, hc, hic⟩ := h2.gone' i (ha2 i hi)
  obtain ⟨k, hk, hki⟩ := mem_getD hic
  have e1 : G' i = is.getD (o.getD (nextOf cs2 i) 0) 0 := by
    rw [← hki, hg2 c hc k hk, h2.next c hc k hk, map_getD_at (is.getD · 0) o _ (by rw [h.len]; exact (h2.facts c hc).2.2 _ (getD_mem (Nat.mod_lt _ (by omega)))) 0 0]
  have a1 := ans_of h1 ha hn hg
  rw [e1, ← key, a1.got _ (h.in_ hi)]
end
/-- All cycles together are as long as the list of items. -/
theorem run_total (h : RunTo n F cs D) (ha : ∀ i, i < n → D i = true) : (cs.map List.length).sum = n := by
  have hnd : cs.flatten.Nodup := by
    clear ha
    induction h with
    | nil => exact List.nodup_nil
    | @snoc cs D c h1 h2 ih =>
      rw [List.flatten_append, List.nodup_append]
      refine ⟨ih, by simpa using h2.nd, ?_⟩
      intro a ha b hb e
      subst e
      obtain ⟨c', hc', hac⟩ := List.mem_flatten.1 ha
      have := h1.goneT c' hc' a hac
      rw [h2.left a (by simpa using hb)] at this
      cases this
  have hp : cs.flatten.Perm (List.range n) := by
    rw [List.perm_ext_iff_of_nodup hnd List.nodup_range]
    intro a
    rw [List.mem_range]
    refine ⟨fun hm => ?_, fun hm => ?_⟩
    · obtain ⟨c, hc, hac⟩ := List.mem_flatten.1 hm
      exact (h.facts c hc).2.2 a hac
    · obtain ⟨c, hc, hac⟩ := h.gone' a (ha a hm)
      exact List.mem_flatten.2 ⟨c, hc, hac⟩
  have := hp.length_eq
  rwa [List.length_flatten, List.length_range] at this
end Go.Proofs.Ytpikmcapnmdmbaa
