/-
  Layer 22, no program: nobody does better by going aside.
-/
import Derived.Test.YtpikmcapnmdmbaaPb
namespace Go.Proofs.Ytpikmcapnmdmbaa
open Go.RowKit Go.K
set_option linter.unusedVariables false
set_option linter.unusedSimpArgs false
theorem ordAcc_split {is : List Int} {D : Nat → Bool} {i : Nat} (hn : is.Nodup) (hi : D i = false) : ∀ (l : List Int) (acc : List Nat), (∀ a ∈ acc, D a = true) →
    (∃ l2, ordAcc is i l acc = acc ++ l2) ∧ ∃ l1 l2, ordAcc is i l acc ++ [i] = l1 ++ ((l.findSome? (liveAt is D)).getD i) :: l2 ∧ ∀ a ∈ l1, D a = true
  | [], acc, h => ⟨⟨[], by simp [ordAcc]⟩, acc, [], by simp [ordAcc], h⟩
  | x :: xs, acc, h => by
    rw [ordAcc]
    cases hf : is.findIdx? (· == x) with
    | none =>
      have hl : liveAt is D x = none := by unfold liveAt; rw [hf]
      obtain ⟨h1, l1, l2, h2, h3⟩ := ordAcc_split hn hi xs acc h
      exact ⟨h1, l1, l2, by simp only [List.findSome?_cons, hl]; exact h2, h3⟩
    | some k =>
      simp only
      by_cases hk : k = i
      · subst hk
        have hl : liveAt is D x = some k := by unfold liveAt; rw [hf]; simp [hi]
        rw [if_pos rfl]
        exact ⟨⟨[], by simp⟩, acc, [], by simp only [List.findSome?_cons, hl]; rfl, h⟩
      · rw [if_neg hk]
        by_cases hm : k ∈ acc
        · have hl : liveAt is D x = none := by unfold liveAt; rw [hf]; simp [h k hm]
          rw [if_pos hm]
          obtain ⟨h1, l1, l2, h2, h3⟩ := ordAcc_split hn hi xs acc h
          exact ⟨h1, l1, l2, by simp only [List.findSome?_cons, hl]; exact h2, h3⟩
        · rw [if_neg hm]
          cases hd : D k with
          | true =>
            have hl : liveAt is D x = none := by unfold liveAt; rw [hf]; simp [hd]
            obtain ⟨⟨l3, h1⟩, l1, l2, h2, h3⟩ := ordAcc_split hn hi xs (acc ++ [k]) (fun a ha => by
              rcases List.mem_append.1 ha with e | e
              · exact h a e
              · rw [List.mem_singleton.1 e]; exact hd)
            exact ⟨⟨[k] ++ l3, by rw [h1, List.append_assoc]⟩, l1, l2, by simp only [List.findSome?_cons, hl]; exact h2, h3⟩
          | false =>
            have hl : liveAt is D x = some k := by unfold liveAt; rw [hf]; simp [hd]
            have hpre : ∀ (l : List Int) (acc : List Nat), ∃ l2, ordAcc is i l acc = acc ++ l2 := by
              intro l
              induction l with
              | nil => intro acc; exact ⟨[], by simp [ordAcc]⟩
              | cons y ys ih =>
                intro acc
                rw [ordAcc]
                cases is.findIdx? (· == y) with
                | none => exact ih acc
                | some q =>
                  simp only
                  split
                  · exact ⟨[], by simp⟩
                  · split
                    · exact ih acc
                    · obtain ⟨l2, h2⟩ := ih (acc ++ [q])
                      exact ⟨[q] ++ l2, by rw [h2, List.append_assoc]⟩
            obtain ⟨l3, h1⟩ := hpre xs (acc ++ [k])
            refine ⟨⟨[k] ++ l3, by rw [h1, List.append_assoc]⟩, acc, l3 ++ [i], ?_, h⟩
            simp only [List.findSome?_cons, hl, Option.getD_some]
            rw [h1]
            simp
/-- Of those whom one would rather have, the first who is left is the one at whom it points. -/
theorem pts_split {is : List Int} {ws : List (List Int)} {D : Nat → Bool} {i : Nat} (hn : is.Nodup) (hi : D i = false) : ∃ l1 l2, ord is (ws.getD i []) i = l1 ++ pts is ws D i :: l2 ∧ ∀ a ∈ l1, D a = true :=
  (ordAcc_split hn hi (ws.getD i []) [] (fun a h => by cases h)).2
theorem idxOf_le {l1 l2 : List Nat} {p : Nat} : (l1 ++ p :: l2).idxOf p ≤ l1.length := by
  rw [List.idxOf_append]
  split
  · rename_i h; exact Nat.le_of_lt (List.idxOf_lt_length_of_mem h)
  · simp
theorem idxOf_before {l1 l2 : List Nat} {p j : Nat} (h : (l1 ++ p :: l2).idxOf j ≤ l1.length) : j ∈ l1 ∨ j = p := by
  by_cases hm : j ∈ l1
  · exact .inl hm
  · rw [List.idxOf_append, if_neg hm, List.idxOf_cons] at h
    by_cases e : (p == j) = true
    · exact .inr (by simpa using e : p = j).symm
    · rw [show (p == j) = false by simpa using e] at h
      simp at h
      omega
theorem idxOf_out {l1 l2 : List Nat} {p j : Nat} (h : j ∉ l1) : l1.length ≤ (l1 ++ p :: l2).idxOf j := by
  rw [List.idxOf_append, if_neg h]; omega
variable {is : List Int} {ws : List (List Int)} {D : Nat → Bool} {cs : List (List Nat)} {N : Nat → Nat}
/-- Each gets its own or what it would rather have. -/
theorem own_plain (h : RunTo is.length (pts is ws) cs D) (hn : is.Nodup) (hN : ∀ c ∈ cs, ∀ k, k < c.length → N (c.getD k 0) = c.getD ((k + 1) % c.length) 0) :
    ∀ i, D i = true → (ord is (ws.getD i []) i).idxOf (N i) ≤ (ord is (ws.getD i []) i).idxOf i := by
  induction h with
  | nil => intro i hi; cases hi
  | @snoc cs D c h1 h2 ih =>
    intro i hi
    rcases gadd_true.1 hi with e | e
    · exact ih (fun c hc => hN c (List.mem_append_left _ hc)) i e
    · obtain ⟨k, hk, rfl⟩ := mem_getD e
      rw [hN c (List.mem_append_right _ (List.mem_singleton.2 rfl)) k hk, ← h2.nxt k hk]
      obtain ⟨l1, l2, e1, e2⟩ := pts_split (ws := ws) hn (h2.left _ e)
      rw [e1]
      exact Nat.le_trans idxOf_le (idxOf_out (fun hm => by have := e2 _ hm; rw [h2.left _ e] at this; cases this))
/-- THE STAGE's THEOREM. -/
theorem core_plain (h : RunTo is.length (pts is ws) cs D) (hn : is.Nodup) (hN : ∀ c ∈ cs, ∀ k, k < c.length → N (c.getD k 0) = c.getD ((k + 1) % c.length) 0) (l : List Nat) (σ : Nat → Nat) (hσ : ∀ i ∈ l, σ i ∈ l) (hinj : ∀ i ∈ l, ∀ j ∈ l, σ i = σ j → i = j)
    (hw : ∀ i ∈ l, (ord is (ws.getD i []) i).idxOf (σ i) ≤ (ord is (ws.getD i []) i).idxOf (N i)) : ∀ i ∈ l, D i = true → σ i = N i := by
  induction h with
  | nil => intro i _ hi; cases hi
  | @snoc cs D c h1 h2 ih =>
    have ih := ih (fun c hc => hN c (List.mem_append_left _ hc))
    intro i hil hi
    rcases gadd_true.1 hi with e | e
    · exact ih i hil e
    · have hD := h2.left _ e
      have hNi : N i = pts is ws D i := by
        obtain ⟨k, hk, rfl⟩ := mem_getD e
        rw [hN c (List.mem_append_right _ (List.mem_singleton.2 rfl)) k hk, ← h2.nxt k hk]
      obtain ⟨l1, l2, e1, e2⟩ := pts_split (ws := ws) hn hD
      have hwi := hw i hil
      rw [hNi, e1] at hwi
      rcases idxOf_before (Nat.le_trans hwi idxOf_le) with hm | hm
      · exfalso
        have hDj := e2 _ hm
        obtain ⟨c', hc', hj⟩ := h1.gone' _ hDj
        obtain ⟨q, hq, hjq⟩ := mem_getD hj
        have hp : 0 < c'.length := by omega
        have hall : ∀ m, c'.getD ((q + m) % c'.length) 0 ∈ l := by
          intro m
          induction m with
          | zero => rw [Nat.add_zero, Nat.mod_eq_of_lt hq, hjq]; exact hσ i hil
          | succ m im =>
            have hlt : (q + m) % c'.length < c'.length := Nat.mod_lt _ hp
            have a1 := ih _ im (h1.goneT c' hc' _ (getD_mem hlt))
            rw [hN c' (List.mem_append_left _ hc') _ hlt, Nat.mod_add_mod] at a1
            have a2 := hσ _ im
            rw [a1] at a2
            rw [← Nat.add_assoc]
            exact a2
        have hlt : (q + (c'.length - 1)) % c'.length < c'.length := Nat.mod_lt _ hp
        have a1 := ih _ (hall (c'.length - 1)) (h1.goneT c' hc' _ (getD_mem hlt))
        rw [hN c' (List.mem_append_left _ hc') _ hlt, Nat.mod_add_mod, show q + (c'.length - 1) + 1 = q + c'.length by omega, Nat.add_mod_right, Nat.mod_eq_of_lt hq, hjq] at a1
        have a2 := hinj _ (hall (c'.length - 1)) i hil a1
        have a3 := h1.goneT c' hc' _ (getD_mem hlt)
        rw [a2, hD] at a3
        cases a3
      · rw [hm, hNi]
/-- Each item is got once. -/
theorem once_plain {n : Nat} {F : (Nat → Bool) → Nat → Nat} (h : RunTo n F cs D) (ha : ∀ i, i < n → D i = true) (hN : ∀ c ∈ cs, ∀ k, k < c.length → N (c.getD k 0) = c.getD ((k + 1) % c.length) 0) (i : Nat) (hi : i < n) :
    ∃ k, k < n ∧ N k = i ∧ ∀ q, q < n → N q = i → q = k := by
  obtain ⟨c, hc, hic⟩ := h.gone' i (ha i hi)
  obtain ⟨q, hq, rfl⟩ := mem_getD hic
  have hp : 0 < c.length := by omega
  have hlt : (q + (c.length - 1)) % c.length < c.length := Nat.mod_lt _ hp
  refine ⟨_, (h.facts c hc).2.2 _ (getD_mem hlt), ?_, fun r hr e => ?_⟩
  · rw [hN c hc _ hlt, Nat.mod_add_mod, show q + (c.length - 1) + 1 = q + c.length by omega, Nat.add_mod_right, Nat.mod_eq_of_lt hq]
  · obtain ⟨c', hc', hrc⟩ := h.gone' r (ha r hr)
    obtain ⟨p, hp', rfl⟩ := mem_getD hrc
    have hp2 : (p + 1) % c'.length < c'.length := Nat.mod_lt _ (by omega)
    rw [hN c' hc' p hp'] at e
    have e2 := h.apart c' hc' c hc _ (by rw [← e]; exact getD_mem hp2) hic
    subst e2
    have e3 := getD_inj (h.facts c' hc).2.1 hp2 hq e
    congr 1
    by_cases e4 : p + 1 = c'.length
    · rw [e4, Nat.mod_self] at e3
      subst e3
      rw [Nat.zero_add, Nat.mod_eq_of_lt (by omega)]
      omega
    · rw [Nat.mod_eq_of_lt (by omega)] at e3
      subst e3
      rw [show p + 1 + (c'.length - 1) = p + c'.length by omega, Nat.add_mod_right, Nat.mod_eq_of_lt hp']
theorem RunTo.nextLt {n : Nat} {F : (Nat → Bool) → Nat → Nat} (h : RunTo n F cs D) (hN : ∀ c ∈ cs, ∀ k, k < c.length → N (c.getD k 0) = c.getD ((k + 1) % c.length) 0) : ∀ i, D i = true → N i < n := by
  intro i hi
  obtain ⟨c, hc, hic⟩ := h.gone' i hi
  obtain ⟨k, hk, rfl⟩ := mem_getD hic
  rw [hN c hc k hk]
  exact (h.facts c hc).2.2 _ (getD_mem (Nat.mod_lt _ (by omega)))
/-- A place in the order, by the entry. -/
theorem plc_idx (hn : is.Nodup) {o : List Nat} (ho : ∀ a ∈ o, a < is.length) {j : Nat} (hj : j < is.length) : plc is o (is.getD j 0) = o.idxOf j := by
  unfold plc
  have e : ∀ a, a < is.length → ((is.getD a 0 == is.getD j 0) = (a == j)) := fun a ha => by
    rw [Bool.eq_iff_iff]
    simp only [beq_iff_eq]
    refine ⟨fun h => ?_, fun h => by rw [h]⟩
    rw [List.getD_eq_getElem?_getD, List.getElem?_eq_getElem ha, List.getD_eq_getElem?_getD, List.getElem?_eq_getElem hj] at h
    have h' : is[a] = is[j] := h
    rcases Nat.lt_trichotomy a j with h1 | h1 | h1
    · exact absurd h' ((List.pairwise_iff_getElem.1 hn) a j ha hj h1)
    · exact h1
    · exact absurd h'.symm ((List.pairwise_iff_getElem.1 hn) j a hj ha h1)
  induction o with
  | nil => rfl
  | cons a o ih =>
    rw [List.findIdx?_cons, List.idxOf_cons, e a (ho a (List.mem_cons_self ..))]
    by_cases h : (a == j) = true
    · rw [h]; rfl
    · have h' : (a == j) = false := by simpa using h
      rw [h']
      have := ih (fun b hb => ho b (List.mem_cons_of_mem _ hb))
      rw [← this]
      cases o.findIdx? (fun j_1 => is.getD j_1 0 == is.getD j 0) <;> simp
end Go.Proofs.Ytpikmcapnmdmbaa
