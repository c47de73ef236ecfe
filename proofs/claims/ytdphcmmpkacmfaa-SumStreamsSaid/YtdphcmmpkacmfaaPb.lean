/-
  Layer 5, the plain law: elimination over rows of bits (the document's Forge).
-/
import Derived.Test.YtdphcmmpkacmfaaPa
namespace Go.Proofs.Ytdphcmmpkacmfaa
open Go.K
set_option linter.unusedVariables false
set_option linter.unusedSimpArgs false

abbrev Row := Nat → BitVec 64
/-- The rows that c picks, among the first n, turned together. -/
def comb (m : Row) (c : Nat → Bool) : Nat → BitVec 64
  | 0 => 0#64
  | n + 1 => comb m c n ^^^ (if c n then m n else 0#64)
def swapR (m : Row) (k a : Nat) (i : Nat) : BitVec 64 := if i = k then m a else if i = a then m k else m i
def bitAt (x : BitVec 64) (k : Nat) : Bool := x.getLsbD k
/-- The first row from i on (below 64) that has bit k, if there is one. -/
def findB (m : Row) (k : Nat) : Nat → Nat → Option Nat
  | _, 0 => none
  | i, n + 1 => if bitAt (m i) k then some i else findB m k (i + 1) n
def clearR (flags : Nat → Bool) (k : Nat) (m : Row) (i : Nat) : BitVec 64 := if flags i then m i ^^^ m k else m i
/-- One column's work. -/
def elimStep (k : Nat) (s : Row × Row) : Row × Row :=
  match findB s.1 k k (64 - k) with
  | none => s
  | some a =>
    let c := swapR s.1 k a
    let d := swapR s.2 k a
    (clearR (fun i => i ≠ k && bitAt (c i) k) k c, clearR (fun i => i ≠ k && bitAt (c i) k) k d)
def elim : Nat → Row × Row → Row × Row
  | 0, s => s
  | k + 1, s => elimStep k (elim k s)

theorem xor_left_comm (a b c : BitVec 64) : a ^^^ (b ^^^ c) = b ^^^ (a ^^^ c) := by
  ac_rfl
theorem comb_congr {m m' : Row} {c c' : Nat → Bool} : ∀ n, (∀ i, i < n → c i = c' i) → (∀ i, i < n → c i = true → m i = m' i) → comb m c n = comb m' c' n
  | 0, _, _ => rfl
  | n + 1, h, g => by
    rw [comb, comb, comb_congr n (fun i hi => h i (by omega)) (fun i hi => g i (by omega)), ← h n (by omega)]
    cases hc : c n
    · simp
    · simp [g n (by omega) hc]
theorem comb_map (f : BitVec 64 → BitVec 64) (hf : ∀ x y, f (x ^^^ y) = f x ^^^ f y) (m : Row) (c : Nat → Bool) (n : Nat) : comb (fun i => f (m i)) c n = f (comb m c n) := by
  have f0 : f 0#64 = 0#64 := by have := hf 0#64 0#64; simpa using this
  induction n with
  | zero => simp [comb, f0]
  | succ n ih => rw [comb, comb, ih, hf]; cases c n <;> simp [f0]
/-- One more time row k in what is picked. -/
theorem comb_flip (m : Row) (c : Nat → Bool) (k : Nat) (n : Nat) (hk : k < n) : comb m (fun i => if i = k then !c i else c i) n = comb m c n ^^^ m k := by
  induction n with
  | zero => omega
  | succ n ih =>
    rw [comb, comb]
    by_cases e : k = n
    · subst e
      rw [comb_congr (m' := m) (c' := c) k (fun i hi => by simp [show ¬ i = k by omega]) (fun _ _ _ => rfl)]
      simp
      cases c k <;> simp [BitVec.xor_assoc]
    · rw [ih (by omega)]
      simp [show ¬ n = k by omega]
      rw [BitVec.xor_assoc, BitVec.xor_comm (m k), BitVec.xor_assoc]
def par (c fl : Nat → Bool) : Nat → Bool
  | 0 => false
  | n + 1 => par c fl n != (c n && fl n)
theorem comb_clear (m : Row) (c fl : Nat → Bool) (k n : Nat) : comb (clearR fl k m) c n = comb m c n ^^^ (if par c fl n then m k else 0#64) := by
  induction n with
  | zero => simp [comb, par]
  | succ n ih =>
    rw [comb, comb, ih, par]
    unfold clearR
    cases c n <;> cases fl n <;> cases par c fl n <;> simp [BitVec.xor_assoc]
    all_goals first | exact BitVec.xor_comm _ _ | (rw [xor_left_comm]; simp) | skip
theorem clear_self (m : Row) (fl : Nat → Bool) (k : Nat) (h : fl k = false) : clearR fl k m k = m k := by simp [clearR, h]

/-- The rows make every number. -/
def Spans (m : Row) : Prop := ∀ x, ∃ c, comb m c 64 = x
theorem spans_clear {m : Row} {fl : Nat → Bool} {k : Nat} (hk : k < 64) (h : fl k = false) (hs : Spans m) : Spans (clearR fl k m) := by
  intro x
  obtain ⟨c, hc⟩ := hs x
  cases hp : par c fl 64
  · exact ⟨c, by rw [comb_clear, hp, hc]; simp⟩
  · refine ⟨fun i => if i = k then !c i else c i, ?_⟩
    rw [comb_flip _ _ _ _ hk, comb_clear, hp, hc, clear_self m fl k h]
    simp [BitVec.xor_assoc]
theorem swap_clear (m : Row) (k a : Nat) (h : k ≠ a) :
    swapR m k a = clearR (fun i => i == k) a (clearR (fun i => i == a) k (clearR (fun i => i == k) a m)) := by
  have h' : ¬ a = k := fun e => h e.symm
  have x1 : ∀ x y : BitVec 64, y = (x ^^^ y) ^^^ (y ^^^ (x ^^^ y)) := by
    intro x y
    apply BitVec.eq_of_getLsbD_eq; intro i hi
    simp only [BitVec.getLsbD_xor]
    cases x.getLsbD i <;> cases y.getLsbD i <;> rfl
  have x2 : ∀ x y : BitVec 64, x = y ^^^ (x ^^^ y) := by
    intro x y
    apply BitVec.eq_of_getLsbD_eq; intro i hi
    simp only [BitVec.getLsbD_xor]
    cases x.getLsbD i <;> cases y.getLsbD i <;> rfl
  funext i
  unfold swapR clearR
  by_cases e1 : i = k
  · subst e1
    simp only [if_true, beq_self_eq_true, beq_iff_eq, h, h', if_false]
    exact x1 _ _
  · by_cases e2 : i = a
    · subst e2
      simp only [if_true, beq_self_eq_true, beq_iff_eq, h', e1, if_false]
      exact x2 _ _
    · simp [e1, e2]
theorem spans_swap {m : Row} {k a : Nat} (hk : k < 64) (ha : a < 64) (hs : Spans m) : Spans (swapR m k a) := by
  by_cases e : k = a
  · subst e
    have : swapR m k k = m := by funext i; unfold swapR; split <;> simp_all
    rw [this]; exact hs
  · rw [swap_clear m k a e]
    exact spans_clear ha (by simp; omega) (spans_clear hk (by simp; omega) (spans_clear ha (by simp; omega) hs))

/-- Every number that a combination makes has, at a bit where the rows are told apart, the choice itself. -/
theorem comb_bit (m : Row) (c : Nat → Bool) (j : Nat) (hj : ∀ i, i < 64 → bitAt (m i) j = decide (i = j)) : ∀ n, n ≤ 64 → bitAt (comb m c n) j = (decide (j < n) && c j) := by
  intro n
  induction n with
  | zero => intro _; simp [comb, bitAt]
  | succ n ih =>
    intro hn
    have := ih (by omega)
    have hjn := hj n (by omega)
    unfold bitAt at *
    rw [comb, BitVec.getLsbD_xor, this]
    by_cases e : n = j
    · subst e
      cases hc : c n <;> simp [hjn]
    · have h1 : (j < n + 1) = (j < n) := by apply propext; omega
      cases hc : c n <;> simp [hjn, e, h1]
theorem comb_none (m : Row) (c : Nat → Bool) (k : Nat) : ∀ n, n ≤ 64 → (∀ i, i < n → c i = true → bitAt (m i) k = false) → bitAt (comb m c n) k = false := by
  intro n
  induction n with
  | zero => intro _ _; simp [comb, bitAt]
  | succ n ih =>
    intro hn h
    have := ih (by omega) (fun i hi => h i (by omega))
    have h2 := h n (by omega)
    unfold bitAt at *
    rw [comb, BitVec.getLsbD_xor, this]
    cases hc : c n
    · simp
    · rw [if_pos rfl, h2 hc]; rfl
theorem findB_none (m : Row) (k : Nat) : ∀ n i, findB m k i n = none → ∀ j, i ≤ j → j < i + n → bitAt (m j) k = false := by
  intro n
  induction n with
  | zero => intro i _ j h1 h2; omega
  | succ n ih =>
    intro i h j h1 h2
    unfold findB at h
    split at h
    · cases h
    · rename_i hb
      by_cases e : j = i
      · subst e; simpa using hb
      · exact ih (i + 1) h j (by omega) (by omega)
theorem findB_some (m : Row) (k : Nat) : ∀ n i a, findB m k i n = some a → i ≤ a ∧ a < i + n ∧ bitAt (m a) k = true := by
  intro n
  induction n with
  | zero => intro i a h; simp [findB] at h
  | succ n ih =>
    intro i a h
    unfold findB at h
    split at h
    · rename_i hb; injection h with h; subst h; exact ⟨by omega, by omega, hb⟩
    · have := ih (i + 1) a h; exact ⟨by omega, by omega, this.2.2⟩
/-- The columns below k are told apart, the rows span, and each is what f makes of its mate. -/
structure Good (f : BitVec 64 → BitVec 64) (k : Nat) (s : Row × Row) : Prop where
  eq : ∀ i, i < 64 → s.1 i = f (s.2 i)
  apart : ∀ j, j < k → ∀ i, i < 64 → bitAt (s.1 i) j = decide (i = j)
  spans : Spans s.1
theorem good_step {f : BitVec 64 → BitVec 64} (hf : ∀ x y, f (x ^^^ y) = f x ^^^ f y) {k : Nat} (hk : k < 64) {s : Row × Row} (h : Good f k s) : Good f (k + 1) (elimStep k s) ∧ (findB s.1 k k (64 - k)).isSome = true := by
  unfold elimStep
  cases hfd : findB s.1 k k (64 - k) with
  | none =>
    exfalso
    obtain ⟨c, hc⟩ := h.spans (bitB k)
    have hlow : ∀ j, j < k → c j = false := by
      intro j hj
      have := comb_bit s.1 c j (h.apart j hj) 64 (Nat.le_refl _)
      rw [hc] at this
      unfold bitAt at this
      rw [bitB_get k hk j (by omega)] at this
      simp [show j < 64 by omega, show ¬ j = k by omega] at this
      exact this
    have hz := comb_none s.1 c k 64 (Nat.le_refl _) (fun i hi hci => by
      rcases Nat.lt_or_ge i k with hik | hik
      · rw [hlow i hik] at hci; cases hci
      · exact findB_none s.1 k (64 - k) k hfd i hik (by omega))
    rw [hc] at hz
    unfold bitAt at hz
    rw [bitB_get k hk k hk] at hz
    simp at hz
  | some a =>
    obtain ⟨h1, h2, h3⟩ := findB_some s.1 k _ _ _ hfd
    have ha : a < 64 := by omega
    refine ⟨?_, rfl⟩
    dsimp only
    have hsw : ∀ i, i < 64 → swapR s.1 k a i = f (swapR s.2 k a i) := by
      intro i hi
      unfold swapR
      split
      · exact h.eq a ha
      · split
        · exact h.eq k hk
        · exact h.eq i hi
    have hsp : Spans (swapR s.1 k a) := spans_swap hk ha h.spans
    have hkk : bitAt (swapR s.1 k a k) k = true := by unfold swapR; simpa using h3
    have hlow : ∀ j, j < k → ∀ i, i < 64 → bitAt (swapR s.1 k a i) j = decide (i = j) := by
      intro j hj i hi
      unfold swapR
      split
      · rename_i e; subst e
        rw [h.apart j hj a ha]; simp; omega
      · split
        · rename_i e1 e2; subst e2
          rw [h.apart j hj k hk]; simp; omega
        · exact h.apart j hj i hi
    generalize swapR s.1 k a = c at hsw hsp hkk hlow
    generalize swapR s.2 k a = d at hsw
    have hck : clearR (fun i => decide (i ≠ k) && bitAt (c i) k) k c k = c k := clear_self _ _ _ (by simp)
    refine ⟨?_, ?_, spans_clear hk (by simp) hsp⟩
    · intro i hi
      dsimp only
      unfold clearR
      split
      · rw [hf, hsw i hi, hsw k hk]
      · exact hsw i hi
    · intro j hj i hi
      show bitAt (clearR _ k c i) j = _
      unfold clearR
      by_cases e : j = k
      · subst e
        by_cases ei : i = j
        · subst ei; simp [hkk]
        · cases hb : bitAt (c i) j
          · simp [hb, ei]
          · simp only [ei, ne_eq, not_false_eq_true, decide_true, hb, Bool.and_self, if_true, decide_false]
            unfold bitAt at *
            rw [BitVec.getLsbD_xor, hb, hkk]; rfl
      · have hjk : j < k := by omega
        have hcj : bitAt (c k) j = false := by rw [hlow j hjk k hk]; simp; omega
        split
        · have := hlow j hjk i hi
          unfold bitAt at *
          rw [BitVec.getLsbD_xor, hcj, this]; simp
        · exact hlow j hjk i hi
theorem comb_eq_of (m : Row) (r : BitVec 64) : ∀ n, comb m (fun i => r.getLsbD i) n = ofFrom m r n := by
  intro n
  induction n with
  | zero => rfl
  | succ n ih =>
    rw [comb, ofFrom, ih, mask_bit, BitVec.getLsbD_ushiftRight, Nat.add_zero]
    congr 1
    cases r.getLsbD n
    · simp
    · rw [if_pos rfl, if_pos rfl, BitVec.and_allOnes]
theorem good_start {f : BitVec 64 → BitVec 64} (hf : ∀ x y, f (x ^^^ y) = f x ^^^ f y) (hs : ∀ y, ∃ x, f x = y) : Good f 0 (fun i => f (bitB i), bitB) :=
  ⟨fun _ _ => rfl, fun j hj => absurd hj (by omega), fun y => by
    obtain ⟨x, hx⟩ := hs y
    exact ⟨fun i => x.getLsbD i, by rw [comb_eq_of]; exact (ofM_lin f hf x).trans hx⟩⟩
theorem good_all {f : BitVec 64 → BitVec 64} (hf : ∀ x y, f (x ^^^ y) = f x ^^^ f y) (hs : ∀ y, ∃ x, f x = y) : ∀ k, k ≤ 64 → Good f k (elim k (fun i => f (bitB i), bitB)) := by
  intro k
  induction k with
  | zero => intro _; exact good_start hf hs
  | succ k ih => intro hk; exact (good_step hf (by omega) (ih (by omega))).1
/-- WHAT THE ELIMINATION GIVES: f of the bits that it picks for r is r. -/
theorem elim_solves {f : BitVec 64 → BitVec 64} (hf : ∀ x y, f (x ^^^ y) = f x ^^^ f y) (hs : ∀ y, ∃ x, f x = y) (r : BitVec 64) :
    f (ofM (elim 64 (fun i => f (bitB i), bitB)).2 r) = r := by
  have g := good_all hf hs 64 (Nat.le_refl _)
  generalize elim 64 (fun i => f (bitB i), bitB) = s at g
  have h1 : ∀ i, i < 64 → f (s.2 i) = bitB i := by
    intro i hi
    rw [← g.eq i hi]
    apply BitVec.eq_of_getLsbD_eq; intro j hj
    have := g.apart j hj i hi
    unfold bitAt at this
    rw [this, bitB_get i hi j hj]
    by_cases e : i = j
    · subst e; rfl
    · simp [e, show ¬ j = i from fun h => e h.symm]
  have h2 : comb (fun i => f (s.2 i)) (fun i => r.getLsbD i) 64 = f (ofM s.2 r) := by
    rw [comb_map f hf, comb_eq_of]; rfl
  rw [← h2, comb_congr (m' := bitB) (c' := fun i => r.getLsbD i) 64 (fun _ _ => rfl) (fun i hi _ => h1 i hi), comb_eq_of]
  exact ofM_lin (fun x => x) (fun _ _ => rfl) r
end Go.Proofs.Ytdphcmmpkacmfaa
