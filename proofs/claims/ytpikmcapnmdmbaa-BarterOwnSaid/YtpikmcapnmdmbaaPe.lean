/-
  Layer 22, no program: true is best; Better by the wishes.
-/
import Derived.Test.YtpikmcapnmdmbaaPd
namespace Go.Proofs.Ytpikmcapnmdmbaa
open Go.RowKit Go.K
set_option linter.unusedVariables false
set_option linter.unusedSimpArgs false
variable {is : List Int} {ws ws' : List (List Int)} {cs cs2 csf : List (List Nat)} {D D2 Df : Nat → Bool} {N1 N2 : Nat → Nat}
/-- The one ahead in its cycle. -/
theorem pred_in {n : Nat} {F : (Nat → Bool) → Nat → Nat} (h : RunTo n F cs D) (hN : ∀ c ∈ cs, ∀ k, k < c.length → N1 (c.getD k 0) = c.getD ((k + 1) % c.length) 0) {p : Nat} (hp : D p = true) : ∃ k, D k = true ∧ N1 k = p := by
  obtain ⟨c, hc, hpc⟩ := h.gone' p hp
  obtain ⟨q, hq, rfl⟩ := mem_getD hpc
  have hlt : (q + (c.length - 1)) % c.length < c.length := Nat.mod_lt _ (by omega)
  refine ⟨_, h.goneT c hc _ (getD_mem hlt), ?_⟩
  rw [hN c hc _ hlt, Nat.mod_add_mod, show q + (c.length - 1) + 1 = q + c.length by omega, Nat.add_mod_right, Nat.mod_eq_of_lt hq]
/-- Of two runs whose wishes agree on the members of the first rounds, these have the same next one. -/
theorem consist (hn : is.Nodup) (h1 : RunTo is.length (pts is ws) cs D) (hf : RunTo is.length (pts is ws') csf Df) (hall : ∀ i, i < is.length → Df i = true)
    (hN1 : ∀ c ∈ cs, ∀ k, k < c.length → N1 (c.getD k 0) = c.getD ((k + 1) % c.length) 0) (hN2 : ∀ c ∈ csf, ∀ k, k < c.length → N2 (c.getD k 0) = c.getD ((k + 1) % c.length) 0)
    (hinj : ∀ a b, a < is.length → b < is.length → N2 a = N2 b → a = b) (hag : ∀ j, D j = true → ws'.getD j [] = ws.getD j []) : ∀ j, D j = true → N2 j = N1 j := by
  induction h1 with
  | nil => intro j hj; cases hj
  | @snoc cs D c h1 h2 ih =>
    have ih := ih (fun c hc => hN1 c (List.mem_append_left _ hc)) (fun j hj => hag j (gadd_true.2 (.inl hj)))
    have hNc : ∀ k, k < c.length → N1 (c.getD k 0) = c.getD ((k + 1) % c.length) 0 := hN1 c (List.mem_append_right _ (List.mem_singleton.2 rfl))
    have hN1D : ∀ c ∈ cs, ∀ k, k < c.length → N1 (c.getD k 0) = c.getD ((k + 1) % c.length) 0 := fun c hc => hN1 c (List.mem_append_left _ hc)
    have hltD : ∀ k, D k = true → k < is.length := fun k hk => by
      obtain ⟨c', hc', hk'⟩ := h1.gone' k hk
      exact (h1.facts c' hc').2.2 k hk'
    have key : ∀ j ∈ c, Df j = true → N2 j = N1 j := by
      clear hall
      induction hf with
      | nil => intro j _ hj; cases hj
      | @snoc csf D2 c2 hf1 hf2 ih2 =>
        have ih2 := ih2 (fun c hc => hN2 c (List.mem_append_left _ hc))
        intro j hjc hj
        rcases gadd_true.1 hj with e | e
        · exact ih2 j hjc e
        · have hD2j := hf2.left j e
          -- nobody of c is gone yet
          have hfree : ∀ q ∈ c, D2 q = false := by
            intro q hq
            cases hd : D2 q with
            | false => rfl
            | true =>
              exfalso
              obtain ⟨q0, hq0, rfl⟩ := mem_getD hq
              obtain ⟨j0, hj0, rfl⟩ := mem_getD hjc
              have hp : 0 < c.length := by omega
              have hgo : ∀ m, D2 (c.getD ((q0 + m) % c.length) 0) = true := by
                intro m
                induction m with
                | zero => rw [Nat.add_zero, Nat.mod_eq_of_lt hq0]; exact hd
                | succ m im =>
                  have hlt : (q0 + m) % c.length < c.length := Nat.mod_lt _ hp
                  have a1 := ih2 _ (getD_mem hlt) im
                  rw [hNc _ hlt, Nat.mod_add_mod] at a1
                  obtain ⟨c3, hc3, h3⟩ := hf1.gone' _ im
                  obtain ⟨r, hr, hre⟩ := mem_getD h3
                  have a2 := hN2 c3 (List.mem_append_left _ hc3) r hr
                  rw [hre, a1] at a2
                  rw [← Nat.add_assoc, a2]
                  exact hf1.goneT c3 hc3 _ (getD_mem (Nat.mod_lt _ (by omega)))
              have := hgo (j0 + c.length - q0)
              rw [show q0 + (j0 + c.length - q0) = j0 + c.length by omega, Nat.add_mod_right, Nat.mod_eq_of_lt hj0, hD2j] at this
              cases this
          have hDj := h2.left j hjc
          obtain ⟨k, hk, hkj⟩ := mem_getD hjc
          have e1 : N1 j = pts is ws D j := by rw [← hkj, hNc k hk, ← h2.nxt k hk]
          have e2 : N2 j = pts is ws' D2 j := by
            obtain ⟨k2, hk2, rfl⟩ := mem_getD e
            rw [hN2 c2 (List.mem_append_right _ (List.mem_singleton.2 rfl)) k2 hk2, ← hf2.nxt k2 hk2]
          have ew : ws'.getD j [] = ws.getD j [] := hag j (gadd_true.2 (.inr hjc))
          obtain ⟨l1, l2, s1, s2⟩ := pts_split (ws := ws) hn hDj
          obtain ⟨m1, m2, t1, t2⟩ := pts_split (ws := ws') hn hD2j
          rw [ew, ← e2] at t1
          rw [← e1] at s1
          have hpc : N1 j ∈ c := by rw [← hkj, hNc k hk]; exact getD_mem (Nat.mod_lt _ (by omega))
          have a1 : (ord is (ws.getD j []) j).idxOf (N2 j) ≤ m1.length := by rw [t1]; exact idxOf_le
          have a2 : m1.length ≤ (ord is (ws.getD j []) j).idxOf (N1 j) := by
            rw [t1]; exact idxOf_out (fun hm => by have := t2 _ hm; rw [hfree _ hpc] at this; cases this)
          have a3 : (ord is (ws.getD j []) j).idxOf (N1 j) ≤ l1.length := by rw [s1]; exact idxOf_le
          have a4 := Nat.le_trans a1 (Nat.le_trans a2 a3)
          rw [s1] at a4
          rcases idxOf_before a4 with hm | hm
          · exfalso
            obtain ⟨q, hq, hqe⟩ := pred_in h1 hN1D (s2 _ hm)
            have a5 := ih q hq
            rw [hqe] at a5
            have a6 := hinj q j (hltD q hq) (h2.lt j hjc) a5
            rw [a6, hDj] at hq
            cases hq
          · exact hm
    intro j hj
    rcases gadd_true.1 hj with e | e
    · exact ih j e
    · exact key j e (hall j (h2.lt j e))
/-- No entry gets by other wishes what it would rather have. -/
theorem true_plain (hn : is.Nodup) (h1 : RunTo is.length (pts is ws) cs D) (hf : RunTo is.length (pts is ws') csf Df) (hall : ∀ i, i < is.length → Df i = true)
    (hN1 : ∀ c ∈ cs, ∀ k, k < c.length → N1 (c.getD k 0) = c.getD ((k + 1) % c.length) 0) (hN2 : ∀ c ∈ csf, ∀ k, k < c.length → N2 (c.getD k 0) = c.getD ((k + 1) % c.length) 0)
    (hinj : ∀ a b, a < is.length → b < is.length → N2 a = N2 b → a = b) (who : Nat) (hag : ∀ j, j ≠ who → ws'.getD j [] = ws.getD j []) (hd : D who = true) :
    (ord is (ws.getD who []) who).idxOf (N1 who) ≤ (ord is (ws.getD who []) who).idxOf (N2 who) := by
  induction h1 with
  | nil => cases hd
  | @snoc cs D c h1 h2 ih =>
    have hN1D : ∀ c ∈ cs, ∀ k, k < c.length → N1 (c.getD k 0) = c.getD ((k + 1) % c.length) 0 := fun c hc => hN1 c (List.mem_append_left _ hc)
    rcases gadd_true.1 hd with e | e
    · exact ih hN1D e
    · have hDw := h2.left who e
      obtain ⟨k, hk, hkj⟩ := mem_getD e
      have e1 : N1 who = pts is ws D who := by rw [← hkj, hN1 c (List.mem_append_right _ (List.mem_singleton.2 rfl)) k hk, ← h2.nxt k hk]
      obtain ⟨l1, l2, s1, s2⟩ := pts_split (ws := ws) hn hDw
      rw [← e1] at s1
      rcases Nat.lt_or_ge ((ord is (ws.getD who []) who).idxOf (N2 who)) ((ord is (ws.getD who []) who).idxOf (N1 who)) with hlt | hge
      · exfalso
        have a3 : (ord is (ws.getD who []) who).idxOf (N1 who) ≤ l1.length := by rw [s1]; exact idxOf_le
        have a4 : (ord is (ws.getD who []) who).idxOf (N2 who) ≤ l1.length := by omega
        rw [s1] at a4 hlt
        rcases idxOf_before a4 with hm | hm
        · have hcon := consist hn h1 hf hall hN1D hN2 hinj (fun j hj => hag j (fun e => by rw [e, hDw] at hj; cases hj))
          obtain ⟨q, hq, hqe⟩ := pred_in h1 hN1D (s2 _ hm)
          have a5 := hcon q hq
          rw [hqe] at a5
          have hql : q < is.length := by
            obtain ⟨c', hc', hk'⟩ := h1.gone' q hq
            exact (h1.facts c' hc').2.2 q hk'
          have a6 := hinj q who hql (h2.lt who e) a5
          rw [a6, hDw] at hq
          cases hq
        · rw [hm] at hlt; omega
      · exact hge
theorem inj_of {n : Nat} {F : (Nat → Bool) → Nat → Nat} (h : RunTo n F cs D) (ha : ∀ i, i < n → D i = true) (hN : ∀ c ∈ cs, ∀ k, k < c.length → N1 (c.getD k 0) = c.getD ((k + 1) % c.length) 0) :
    ∀ a b, a < n → b < n → N1 a = N1 b → a = b := by
  intro a b hA hB e
  obtain ⟨k, _, _, hu⟩ := once_plain h ha hN (N1 a) (h.nextLt hN a (ha a hA))
  rw [hu a hA rfl, hu b hB e.symm]
/-- Better, by the wishes alone. -/
def bscan (is : List Int) (own x y : Int) : List Int → Bool
  | [] => (x == own) && (x != y)
  | w :: l => if (is.findIdx? (· == w)).isNone then bscan is own x y l else if w = x ∨ w = y then (w == x) && (x != y) else if w = own then false else bscan is own x y l
theorem plc_append (is : List Int) (a b : List Nat) (x : Int) (h : ∀ j ∈ a, is.getD j 0 ≠ x) : plc is (a ++ b) x = a.length + plc is b x := by
  unfold plc
  rw [List.findIdx?_append, List.findIdx?_eq_none_iff.2 (fun j hj => by simpa using h j hj)]
  cases b.findIdx? (fun j => is.getD j 0 == x) <;> simp <;> omega
theorem plc_cons_hit (is : List Int) (j : Nat) (b : List Nat) : plc is (j :: b) (is.getD j 0) = 0 := by
  unfold plc; rw [List.findIdx?_cons]; simp
theorem plc_cons_miss (is : List Int) (j : Nat) (b : List Nat) {x : Int} (h : is.getD j 0 ≠ x) : plc is (j :: b) x = plc is b x + 1 := by
  have := plc_append is [j] b x (fun a ha => by rw [List.mem_singleton.1 ha]; exact h)
  rw [show [j] ++ b = j :: b from rfl] at this
  rw [this]; simp; omega
theorem find_item {is : List Int} {w : Int} {k : Nat} (h : is.findIdx? (· == w) = some k) : is.getD k 0 = w := by
  obtain ⟨h1, h2, _⟩ := List.findIdx?_eq_some_iff_getElem.1 h
  rw [List.getD_eq_getElem?_getD, List.getElem?_eq_getElem h1]
  simpa using h2
theorem ordAcc_pre (is : List Int) (i : Nat) : ∀ (l : List Int) (acc : List Nat), ∃ l2, ordAcc is i l acc = acc ++ l2
  | [], acc => ⟨[], by simp [ordAcc]⟩
  | y :: ys, acc => by
    rw [ordAcc]
    cases is.findIdx? (· == y) with
    | none => exact ordAcc_pre is i ys acc
    | some q =>
      simp only
      split
      · exact ⟨[], by simp⟩
      · split
        · exact ordAcc_pre is i ys acc
        · obtain ⟨l2, h2⟩ := ordAcc_pre is i ys (acc ++ [q])
          exact ⟨[q] ++ l2, by rw [h2, List.append_assoc]⟩
/-- The first of the two that stands in the order decides. -/
theorem hit_first {is : List Int} {acc rest : List Nat} {k : Nat} {w x y : Int} (hk : is.getD k 0 = w) (hx : ∀ j ∈ acc, is.getD j 0 ≠ x) (hy : ∀ j ∈ acc, is.getD j 0 ≠ y) (hw : w = x ∨ w = y) :
    ((w == x) && (x != y)) = decide (plc is (acc ++ k :: rest) x < plc is (acc ++ k :: rest) y) := by
  rw [plc_append is acc _ x hx, plc_append is acc _ y hy]
  by_cases e : x = y
  · subst e
    rw [decide_eq_false (Nat.lt_irrefl _)]
    simp
  · have hne : (x != y) = true := bne_iff_ne.2 e
    by_cases e1 : w = x
    · have p1 : plc is (k :: rest) x = 0 := by rw [← e1, ← hk]; exact plc_cons_hit is k rest
      rw [p1, plc_cons_miss is k rest (x := y) (by rw [hk, e1]; exact e), hne, decide_eq_true (by omega)]
      simp [e1]
    · have e2 : w = y := hw.resolve_left e1
      have p1 : plc is (k :: rest) y = 0 := by rw [← e2, ← hk]; exact plc_cons_hit is k rest
      rw [p1, decide_eq_false (by omega)]
      simp [e1]
theorem bscan_eq {is : List Int} (hn : is.Nodup) {i : Nat} (hi : i < is.length) (x y : Int) : ∀ (l : List Int) (acc : List Nat), (∀ j ∈ acc, is.getD j 0 ≠ x) → (∀ j ∈ acc, is.getD j 0 ≠ y) →
    bscan is (is.getD i 0) x y l = decide (plc is (ordAcc is i l acc ++ [i]) x < plc is (ordAcc is i l acc ++ [i]) y)
  | [], acc, hx, hy => by
    show ((x == is.getD i 0) && (x != y)) = _
    rw [ordAcc, plc_append is acc _ x hx, plc_append is acc _ y hy]
    by_cases e2 : x = y
    · subst e2
      rw [decide_eq_false (Nat.lt_irrefl _)]
      simp
    · have hne : (x != y) = true := bne_iff_ne.2 e2
      by_cases e : x = is.getD i 0
      · have p1 : plc is [i] x = 0 := by rw [e]; exact plc_cons_hit is i []
        rw [p1, plc_cons_miss is i [] (x := y) (by rw [← e]; exact e2), hne, decide_eq_true (by omega)]
        rw [beq_iff_eq.2 e]; rfl
      · have p1 := plc_cons_miss is i [] (x := x) (fun h => e h.symm)
        rw [beq_eq_false_iff_ne.2 e, Bool.false_and, p1]
        symm
        refine decide_eq_false ?_
        by_cases e3 : y = is.getD i 0
        · have p2 : plc is [i] y = 0 := by rw [e3]; exact plc_cons_hit is i []
          omega
        · rw [plc_cons_miss is i [] (x := y) (fun h => e3 h.symm)]
          have : plc is [] x = plc is [] y := rfl
          omega
  | w :: l, acc, hx, hy => by
    rw [bscan]
    cases hf : is.findIdx? (· == w) with
    | none =>
      have ho : ordAcc is i (w :: l) acc = ordAcc is i l acc := by rw [ordAcc, hf]
      rw [ho, if_pos (by rfl)]; exact bscan_eq hn hi x y l acc hx hy
    | some k =>
      have hk := find_item hf
      have ho : ordAcc is i (w :: l) acc = if k = i then acc else if k ∈ acc then ordAcc is i l acc else ordAcc is i l (acc ++ [k]) := by rw [ordAcc, hf]
      rw [if_neg (by simp)]
      by_cases hw : w = x ∨ w = y
      · rw [if_pos hw, ho]
        have hka : k ∉ acc := fun hm => by
          rcases hw with e | e
          · exact hx k hm (hk.trans e)
          · exact hy k hm (hk.trans e)
        by_cases hki : k = i
        · rw [if_pos hki, ← hki]
          exact hit_first hk hx hy hw
        · rw [if_neg hki, if_neg hka]
          obtain ⟨l2, h2⟩ := ordAcc_pre is i l (acc ++ [k])
          rw [h2, show acc ++ [k] ++ l2 ++ [i] = acc ++ k :: (l2 ++ [i]) by simp]
          exact hit_first hk hx hy hw
      · rw [if_neg hw, ho]
        have hwx : w ≠ x := fun e => hw (.inl e)
        have hwy : w ≠ y := fun e => hw (.inr e)
        by_cases hki : k = i
        · rw [if_pos hki, if_pos (by rw [← hki]; exact hk.symm), ← hki, plc_append is acc _ x hx, plc_append is acc _ y hy, plc_cons_miss is k [] (x := x) (by rw [hk]; exact hwx), plc_cons_miss is k [] (x := y) (by rw [hk]; exact hwy)]
          symm
          refine decide_eq_false ?_
          have : plc is [] x = plc is [] y := rfl
          omega
        · have hwo : ¬ w = is.getD i 0 := fun e => hki (nodup_getD hn (find_lt hf) hi (hk.trans e))
          rw [if_neg hwo, if_neg hki]
          by_cases hka : k ∈ acc
          · rw [if_pos hka]; exact bscan_eq hn hi x y l acc hx hy
          · rw [if_neg hka]
            refine bscan_eq hn hi x y l (acc ++ [k]) (fun j hj => ?_) (fun j hj => ?_)
            · rcases List.mem_append.1 hj with e | e
              · exact hx j e
              · rw [List.mem_singleton.1 e, hk]; exact hwx
            · rcases List.mem_append.1 hj with e | e
              · exact hy j e
              · rw [List.mem_singleton.1 e, hk]; exact hwy
end Go.Proofs.Ytpikmcapnmdmbaa
