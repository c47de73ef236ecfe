/-
  Layer 21: what one sealed bid gets and pays, in plain terms: whoever bids the worth gains no less.
-/
import Derived.Test.YtpejcndfplbikaaNc
namespace Go.Proofs.Ytpejcndfplbikaa
open Go.RowKit Go.K
set_option linter.unusedVariables false
set_option linter.unusedSimpArgs false
def wL (l : List Gi) : Bool := l.any fun g => (g.to' == 1000) && (g.item == 7)
def sL (l : List Gi) : Int := (l.map fun g => if g.to' = 1000 then g.coins else 0).sum
theorem wL_append (a b : List Gi) : wL (a ++ b) = (wL a || wL b) := by simp [wL]
theorem sL_append (a b : List Gi) : sL (a ++ b) = sL a + sL b := by simp [sL]
theorem wrap_add (a b : Int) : IntKind.u64.wrap (IntKind.u64.wrap a + b) = IntKind.u64.wrap (a + b) := by
  simp only [IntKind.wrap_u64]; omega
theorem take_getD (l : List Gi) (k : Nat) (h : k < l.length) : l.take (k + 1) = l.take k ++ [l.getD k ⟨0, 0, 0⟩] := by
  rw [List.take_succ_eq_append_getElem h]
  simp [List.getD_eq_getElem?_getD, List.getElem?_eq_getElem h]
theorem gW_eq (l : List Gi) : ∀ k, k ≤ l.length → gW l k = wL (l.take k)
  | 0, _ => by simp [gW, wL]
  | k + 1, h => by
    rw [take_getD l k (by omega), wL_append, ← gW_eq l k (by omega)]
    simp only [gW]
    generalize l.getD k ⟨0, 0, 0⟩ = x
    split
    · rename_i h1; simp [wL, h1]
    · rename_i h1; simp [wL, h1]
theorem gB_eq (l : List Gi) : ∀ k, k ≤ l.length → gB l k = IntKind.u64.wrap (sL (l.take k))
  | 0, _ => rfl
  | k + 1, h => by
    rw [take_getD l k (by omega), sL_append]
    simp only [gB]
    generalize l.getD k ⟨0, 0, 0⟩ = x
    split
    · rename_i h1
      rw [gB_eq l k (by omega), wrap_add]
      simp [sL, h1]
    · rename_i h1
      rw [gB_eq l k (by omega)]
      simp [sL, h1]
theorem wL_give (t i c : Int) : wL (giveL t i c) = ((t == 1000) && (i == 7)) := by
  unfold giveL
  by_cases h1 : i = 0
  · subst h1
    by_cases h2 : c = 0 <;> simp [h2, wL]
  · by_cases h2 : c = 0 <;> simp [h1, h2, wL]
theorem sL_give (t i c : Int) : sL (giveL t i c) = if t = 1000 then c else 0 := by
  unfold giveL
  by_cases h1 : i = 0
  · by_cases h2 : c = 0 <;> simp [h1, h2, sL]
  · by_cases h2 : c = 0 <;> simp [h1, h2, sL]
/-- Of n entries number i alone is the account's. -/
structure Mine (l : List DE) (n i : Nat) : Prop where
  pos : 1 ≤ i
  acc : ∀ k, k < n → (dA l k = 1000 ↔ k = i)
  item : ∀ k, 1 ≤ k → k < n → dI l k = 0
theorem back_none (l : List DE) (n : Nat) (ha : ∀ k, k < n → dA l k ≠ 1000) : ∀ j, j ≤ n → wL (backP l j) = false ∧ sL (backP l j) = 0
  | 0, _ => ⟨rfl, rfl⟩
  | j + 1, h => by
    obtain ⟨h1, h2⟩ := back_none l n ha j (by omega)
    have h3 := ha j (by omega)
    simp only [backP, wL_append, sL_append, wL_give, sL_give, h1, h2]
    simp [h3]
theorem back_mine {l : List DE} {n i : Nat} (h : Mine l n i) : ∀ j, j ≤ n → wL (backP l j) = false ∧ sL (backP l j) = if i < j then dC l i else 0
  | 0, _ => ⟨rfl, rfl⟩
  | j + 1, hj => by
    obtain ⟨h1, h2⟩ := back_mine h j (by omega)
    simp only [backP, wL_append, sL_append, wL_give, sL_give, h1, h2]
    by_cases e : j = i
    · subst e
      have h3 := (h.acc j (by omega)).2 rfl
      have h4 := h.item j h.pos (by omega)
      simp [h3, h4]
    · have h3 : dA l j ≠ 1000 := fun e2 => e ((h.acc j (by omega)).1 e2)
      constructor
      · simp [h3]
      · rw [if_neg h3]
        split
        · rw [if_pos (by omega)]; omega
        · rw [if_neg (by omega)]; rfl
theorem end_mine {l : List DE} {n i : Nat} (h : Mine l n i) (w : Nat) (p : Int) (hw1 : 1 ≤ w) (hw2 : w < n) (h7 : dI l 0 = 7) : ∀ j, j ≤ n →
    wL (endP l w p j) = (decide (0 < j) && decide (w = i)) ∧ sL (endP l w p j) = if i < j then (if w = i then IntKind.u64.wrap (dC l i - p) else dC l i) else 0
  | 0, _ => ⟨rfl, rfl⟩
  | j + 1, hj => by
    obtain ⟨h1, h2⟩ := end_mine h w p hw1 hw2 h7 j (by omega)
    have hi := h.pos
    simp only [endP, wL_append, sL_append, h1, h2]
    unfold endS
    have h0 : dA l 0 ≠ 1000 := fun e => by have := (h.acc 0 (by omega)).1 e; omega
    by_cases e0 : j = 0
    · subst e0
      rw [if_pos rfl]
      simp only [wL_append, sL_append, wL_give, sL_give]
      constructor
      · by_cases e : w = i
        · have := (h.acc w hw2).2 e
          subst e
          simp [this, h7]
        · have : dA l w ≠ 1000 := fun e2 => e ((h.acc w hw2).1 e2)
          simp [this, e, h0]
      · have q1 : ¬ i < 0 := by omega
        have q2 : ¬ i < 0 + 1 := by omega
        rw [if_neg h0, if_neg q1, if_neg q2]
        split <;> rfl
    · rw [if_neg e0]
      have hjp : decide (0 < j) = true := by simp; omega
      have hjp2 : decide (0 < j + 1) = true := by simp
      by_cases e : j = w
      · subst e
        rw [if_pos rfl]
        simp only [wL_append, sL_append, wL_give, sL_give]
        have h4 := h.item j hw1 (by omega)
        constructor
        · rw [h4, hjp, hjp2]; simp
        · rw [if_neg h0]
          by_cases e2 : j = i
          · subst e2
            have h3 := (h.acc j (by omega)).2 rfl
            simp [h3]
          · have h3 : dA l j ≠ 1000 := fun e3 => e2 ((h.acc j (by omega)).1 e3)
            simp only [if_neg h3, if_neg e2]
            by_cases e3 : i < j
            · rw [if_pos e3, if_pos (by omega)]; omega
            · rw [if_neg e3, if_neg (by omega)]; rfl
      · rw [if_neg e]
        simp only [wL_give, sL_give]
        have h4 := h.item j (by omega) (by omega)
        constructor
        · rw [h4, hjp, hjp2]; simp
        · by_cases e2 : j = i
          · subst e2
            have h3 := (h.acc j (by omega)).2 rfl
            have e5 : ¬ w = j := fun e6 => e e6.symm
            simp [h3, e5]
          · have h3 : dA l j ≠ 1000 := fun e3 => e2 ((h.acc j (by omega)).1 e3)
            rw [if_neg h3]
            by_cases e3 : i < j
            · have e4 : i < j + 1 := by omega
              rw [if_pos e3, if_pos e4, Int.add_zero]
            · have e4 : ¬ i < j + 1 := by omega
              rw [if_neg e3, if_neg e4]; rfl
theorem aE_get (b : Int) (l : List (BitVec 64)) : ∀ n i, i < n → (aE b l n)[i]? = some (cE (b + i) (U64 (l.getD i 0)))
  | 0, i, h => by omega
  | n + 1, i, h => by
    rw [aE]
    by_cases e : i = n
    · subst e
      rw [List.getElem?_append_right (by rw [aE_len]; omega), aE_len]; simp
    · rw [List.getElem?_append_left (by rw [aE_len]; omega)]
      exact aE_get b l n i (by omega)
/-- The entries, one by one, where the bid is one. -/
theorem bid_get (la : List (BitVec 64)) (m : Int) (lb : List (BitVec 64)) (hm : m > 0) (k : Nat) (hk : k < la.length + lb.length + 2) :
    (bidL la m lb)[k]? = some (if k = 0 then e7 else if k < la.length + 1 then cE (2000 + ((k - 1 : Nat) : Int)) (U64 (la.getD (k - 1) 0)) else if k = la.length + 1 then cE 1000 m else cE (3000 + ((k - la.length - 2 : Nat) : Int)) (U64 (lb.getD (k - la.length - 2) 0))) := by
  unfold bidL
  rw [if_pos hm]
  have hl : ([e7] ++ aE 2000 la la.length).length = la.length + 1 := by simp [aE_len]
  by_cases h1 : k < la.length + 1
  · rw [List.getElem?_append_left (by simp [aE_len]; omega), List.getElem?_append_left (by rw [hl]; omega)]
    by_cases h0 : k = 0
    · subst h0; rfl
    · rw [if_neg h0, if_pos h1, List.getElem?_append_right (by simp; omega)]
      simp only [List.length_cons, List.length_nil]
      rw [aE_get _ _ _ _ (by omega)]
  · rw [if_neg (by omega), if_neg h1]
    by_cases h2 : k = la.length + 1
    · rw [if_pos h2, List.getElem?_append_left (by simp [aE_len]; omega), List.getElem?_append_right (by rw [hl]; omega), hl, h2]
      simp
    · rw [if_neg h2, List.getElem?_append_right (by simp [aE_len]; omega)]
      have e : k - ([e7] ++ aE 2000 la la.length ++ [cE 1000 m]).length = k - la.length - 2 := by
        simp only [List.length_append, hl, List.length_cons, List.length_nil]; omega
      rw [e, aE_get _ _ _ _ (by omega)]
theorem bid_len (la : List (BitVec 64)) (m : Int) (lb : List (BitVec 64)) (hm : m > 0) : (bidL la m lb).length = la.length + lb.length + 2 := by
  unfold bidL
  rw [if_pos hm]
  simp only [List.length_append, List.length_cons, List.length_nil, aE_len]
  omega
theorem getD_d (l : List Ent) (k : Nat) (x : Ent) (h : l[k]? = some x) : (l.map Ent.d).getD k dz = x.d := by
  simp [List.getD_eq_getElem?_getD, List.getElem?_map, h]
theorem bid_mine (la : List (BitVec 64)) (m : Int) (lb : List (BitVec 64)) (hm : m > 0) : Mine ((bidL la m lb).map Ent.d) (la.length + lb.length + 2) (la.length + 1) ∧ dI ((bidL la m lb).map Ent.d) 0 = 7 ∧ dC ((bidL la m lb).map Ent.d) (la.length + 1) = m := by
  refine ⟨⟨by omega, fun k hk => ?_, fun k h1 hk => ?_⟩, ?_, ?_⟩
  · unfold dA
    rw [getD_d _ _ _ (bid_get la m lb hm k hk)]
    split
    · simp [e7, Ent.d]; omega
    · split
      · simp [cE, Ent.d]; omega
      · split
        · simp [cE, Ent.d]; omega
        · simp [cE, Ent.d]; omega
  · unfold dI
    rw [getD_d _ _ _ (bid_get la m lb hm k hk), if_neg (by omega)]
    split
    · rfl
    · split <;> rfl
  · unfold dI
    rw [getD_d _ _ _ (bid_get la m lb hm 0 (by omega)), if_pos rfl]
    rfl
  · unfold dC
    rw [getD_d _ _ _ (bid_get la m lb hm (la.length + 1) (by omega)), if_neg (by omega), if_neg (by omega), if_pos rfl]
    rfl
/-- The others' coins don't hang on the bid. -/
theorem bid_others (la : List (BitVec 64)) (m m' : Int) (lb : List (BitVec 64)) (hm : m > 0) (hm' : m' > 0) (k : Nat) (hk : k < la.length + lb.length + 2) (hne : k ≠ la.length + 1) : dC ((bidL la m lb).map Ent.d) k = dC ((bidL la m' lb).map Ent.d) k := by
  unfold dC
  rw [getD_d _ _ _ (bid_get la m lb hm k hk), getD_d _ _ _ (bid_get la m' lb hm' k hk), if_neg hne, if_neg hne]
theorem bid_none (la : List (BitVec 64)) (lb : List (BitVec 64)) : ∀ x ∈ (bidL la 0 lb), x.acc ≠ 1000 := by
  intro x hx
  unfold bidL at hx
  rw [if_neg (by decide), List.append_nil] at hx
  have ha : ∀ (b : Int) (hb : 1000 < b) l n, ∀ x ∈ aE b l n, x.acc ≠ 1000 := by
    intro b hb l n
    induction n with
    | zero => intro x hx; cases hx
    | succ n ih =>
      intro x hx
      rw [aE] at hx
      rcases List.mem_append.1 hx with h | h
      · exact ih x h
      · rw [List.mem_singleton] at h; subst h; simp [cE]; omega
  rcases List.mem_append.1 hx with h | h
  · rcases List.mem_append.1 h with h | h
    · rw [List.mem_singleton] at h; subst h; decide
    · exact ha _ (by decide) _ _ _ h
  · exact ha _ (by decide) _ _ _ h
def bidC (la : List (BitVec 64)) (m : Int) (lb : List (BitVec 64)) : Nat → Int := dC ((bidL la m lb).map Ent.d)
def bidW (r : Int) (la : List (BitVec 64)) (m : Int) (lb : List (BitVec 64)) : Bool := decide (0 < m) && decide (bst r (bidC la m lb) (la.length + lb.length + 2) = la.length + 1)
def bidP (r : Int) (la : List (BitVec 64)) (m : Int) (lb : List (BitVec 64)) : Int := if bidW r la m lb = true then pay r (bidC la m lb) (la.length + 1) (la.length + lb.length + 2) else 0
theorem bid_wins {r : Int} {la : List (BitVec 64)} {m : Int} {lb : List (BitVec 64)} (h : bidW r la m lb = true) : 0 < m ∧ bst r (bidC la m lb) (la.length + lb.length + 2) = la.length + 1 := by
  simpa [bidW] using h
theorem mine_at (la : List (BitVec 64)) (m : Int) (lb : List (BitVec 64)) (hm : 0 < m) : bidC la m lb (la.length + 1) = m := (bid_mine la m lb hm).2.2
theorem wins_le {r : Int} {la : List (BitVec 64)} {m : Int} {lb : List (BitVec 64)} (h : bidW r la m lb = true) : bidP r la m lb ≤ m ∧ r ≤ bidP r la m lb := by
  obtain ⟨h0, h1⟩ := bid_wins h
  unfold bidP
  rw [if_pos h]
  refine ⟨?_, (pay_ge _ _ _ _).1⟩
  have hc := mine_at la m lb h0
  rcases bst_best r (bidC la m lb) (la.length + lb.length + 2) with ⟨h2, _⟩ | ⟨_, _, h4, h5⟩
  · omega
  · rw [h1] at h4 h5
    rw [hc] at h4 h5
    exact pay_le _ _ _ _ _ h4 (fun k hk hkn _ => (h5 k hk hkn).1)
theorem pay_others (r : Int) (C D : Nat → Int) (w : Nat) : ∀ n, (∀ k, k < n → k ≠ w → C k = D k) → pay r C w n = pay r D w n
  | 0, _ => rfl
  | n + 1, h => by
    simp only [pay]
    rw [pay_others r C D w n (fun k hk => h k (by omega))]
    split
    · rename_i h1; rw [h n (by omega) h1.2]
    · rfl
theorem wins_same {r : Int} {la : List (BitVec 64)} {m m' : Int} {lb : List (BitVec 64)} (h : bidW r la m lb = true) (h' : bidW r la m' lb = true) : bidP r la m lb = bidP r la m' lb := by
  unfold bidP
  rw [if_pos h, if_pos h']
  exact pay_others _ _ _ _ _ (fun k hk hne => bid_others la m m' lb (bid_wins h).1 (bid_wins h').1 k hk hne)
theorem loses_more {r : Int} {la : List (BitVec 64)} {m m' : Int} {lb : List (BitVec 64)} (hm : 0 < m) (h : bidW r la m lb = false) (h' : bidW r la m' lb = true) : m ≤ bidP r la m' lb := by
  have hne : bst r (bidC la m lb) (la.length + lb.length + 2) ≠ la.length + 1 := by
    intro e
    rw [show bidW r la m lb = true by simp [bidW, hm, e]] at h
    cases h
  have hm' := (bid_wins h').1
  have hc := mine_at la m lb hm
  unfold bidP
  rw [if_pos h']
  obtain ⟨p1, p2⟩ := pay_ge r (bidC la m' lb) (la.length + 1) (la.length + lb.length + 2)
  rcases bst_best r (bidC la m lb) (la.length + lb.length + 2) with ⟨h2, h3⟩ | ⟨h3, h4, h5, h6⟩
  · have := h3 (la.length + 1) (by omega) (by omega)
    omega
  · have h7 := (h6 (la.length + 1) (by omega) (by omega)).1
    have h8 := p2 _ h3 h4 hne
    have h9 := bid_others la m m' lb hm hm' _ h4 hne
    rw [hc] at h7
    unfold bidC at *
    omega
/-- What bid answers. -/
theorem bid_says (r : Int) (la : List (BitVec 64)) (m : Int) (lb : List (BitVec 64)) (hr : 0 ≤ r) (h0 : 0 ≤ m) (h1 : m ≤ 18446744073709551615) (gs : List Gi) (hgs : endL 3 r ((bidL la m lb).map Ent.d) = gs) :
    gW gs gs.length = bidW r la m lb ∧ IntKind.u64.wrap (m - gB gs gs.length) = bidP r la m lb ∧ decide (gB gs gs.length ≤ m) = true := by
  rw [gW_eq _ _ (Nat.le_refl _), gB_eq _ _ (Nat.le_refl _), List.take_length]
  subst hgs
  by_cases hm : m > 0
  · obtain ⟨hM, h7, hc⟩ := bid_mine la m lb hm
    have hlen := bid_len la m lb hm
    have hwv : winV 3 r ((bidL la m lb).map Ent.d) = (bst r (bidC la m lb) (la.length + lb.length + 2), pay r (bidC la m lb) (bst r (bidC la m lb) (la.length + lb.length + 2)) (la.length + lb.length + 2)) := by
      unfold winV
      rw [List.length_map, hlen, if_pos ⟨.inr rfl, by omega⟩, if_neg (by decide)]
      rfl
    unfold endL
    rw [hwv, List.length_map, hlen]
    by_cases hw0 : bst r (bidC la m lb) (la.length + lb.length + 2) = 0
    · simp only [hw0, if_true]
      obtain ⟨b1, b2⟩ := back_mine hM _ (Nat.le_refl _)
      rw [b1, b2, if_pos (by omega), hc]
      have hW : bidW r la m lb = false := by simp [bidW, hw0]
      have hP : bidP r la m lb = 0 := by unfold bidP; rw [hW]; rfl
      rw [hW, hP]
      have e : IntKind.u64.wrap m = m := by rw [IntKind.wrap_u64]; omega
      rw [e]
      exact ⟨rfl, by rw [Int.sub_self]; rfl, by simp⟩
    · rw [if_neg hw0]
      have hb := bst_best r (bidC la m lb) (la.length + lb.length + 2)
      have hwl : bst r (bidC la m lb) (la.length + lb.length + 2) < la.length + lb.length + 2 := by
        rcases hb with ⟨h, _⟩ | ⟨_, h, _⟩
        · exact absurd h hw0
        · exact h
      obtain ⟨b1, b2⟩ := end_mine hM (bst r (bidC la m lb) (la.length + lb.length + 2)) (pay r (bidC la m lb) (bst r (bidC la m lb) (la.length + lb.length + 2)) (la.length + lb.length + 2)) (by omega) hwl h7 _ (Nat.le_refl _)
      simp only
      rw [b1, b2, if_pos (by omega), hc]
      by_cases hwm : bst r (bidC la m lb) (la.length + lb.length + 2) = la.length + 1
      · have hW : bidW r la m lb = true := by simp [bidW, hwm, hm]
        obtain ⟨q1, q2⟩ := wins_le hW
        have hP : bidP r la m lb = pay r (bidC la m lb) (la.length + 1) (la.length + lb.length + 2) := by unfold bidP; rw [if_pos hW]
        rw [if_pos hwm, hwm, hW]
        rw [← hP]
        have e : IntKind.u64.wrap (m - bidP r la m lb) = m - bidP r la m lb := by rw [IntKind.wrap_u64]; omega
        rw [e, e]
        refine ⟨by simp, ?_, by simp; omega⟩
        rw [IntKind.wrap_u64]; omega
      · have hW : bidW r la m lb = false := by simp [bidW, hwm]
        have hP : bidP r la m lb = 0 := by unfold bidP; rw [hW]; rfl
        rw [if_neg hwm, hW, hP]
        have e : IntKind.u64.wrap m = m := by rw [IntKind.wrap_u64]; omega
        rw [e]
        exact ⟨by simp [hwm], by rw [Int.sub_self]; rfl, by simp⟩
  · obtain rfl : m = 0 := by omega
    have hW : bidW r la 0 lb = false := by simp [bidW]
    have hP : bidP r la 0 lb = 0 := by unfold bidP; rw [hW]; rfl
    have hn : ∀ k, k < ((bidL la 0 lb).map Ent.d).length → dA ((bidL la 0 lb).map Ent.d) k ≠ 1000 := by
      intro k hk
      rw [List.length_map] at hk
      rw [dA_ent _ _ hk]
      exact bid_none la lb _ (List.getElem_mem hk)
    have hz : wL (endL 3 r ((bidL la 0 lb).map Ent.d)) = false ∧ sL (endL 3 r ((bidL la 0 lb).map Ent.d)) = 0 := by
      unfold endL
      split
      · exact back_none _ _ hn _ (Nat.le_refl _)
      · rename_i hw
        have hwl := (winV_lt 3 r ((bidL la 0 lb).map Ent.d)).resolve_left hw
        generalize (winV 3 r ((bidL la 0 lb).map Ent.d)).1 = w at *
        generalize (winV 3 r ((bidL la 0 lb).map Ent.d)).2 = p at *
        have hall : ∀ j, j ≤ ((bidL la 0 lb).map Ent.d).length → wL (endP ((bidL la 0 lb).map Ent.d) w p j) = false ∧ sL (endP ((bidL la 0 lb).map Ent.d) w p j) = 0 := by
          intro j
          induction j with
          | zero => intro _; exact ⟨rfl, rfl⟩
          | succ j ih =>
            intro hj
            obtain ⟨i1, i2⟩ := ih (by omega)
            have a0 := hn 0 (by omega)
            have aj := hn j (by omega)
            have aw := hn w hwl
            simp only [endP, wL_append, sL_append, i1, i2]
            unfold endS
            split
            · simp only [wL_append, sL_append, wL_give, sL_give]; simp [a0, aw]
            · split
              · simp only [wL_append, sL_append, wL_give, sL_give]; simp [a0, aw]
              · simp only [wL_append, sL_append, wL_give, sL_give]; simp [aj]
        exact hall _ (Nat.le_refl _)
    rw [hz.1, hz.2, hW, hP]
    exact ⟨rfl, rfl, rfl⟩
end Go.Proofs.Ytpejcndfplbikaa
