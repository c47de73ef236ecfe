/-
  Layer 22, no program: rounds of cycles.
-/
import Derived.Test.YtpikmcapnmdmbaaWb
namespace Go.Proofs.Ytpikmcapnmdmbaa
open Go.RowKit Go.K
set_option linter.unusedVariables false
set_option linter.unusedSimpArgs false

def gadd (D : Nat → Bool) (c : List Nat) : Nat → Bool := fun i => D i || decide (i ∈ c)
theorem gadd_true {D : Nat → Bool} {c : List Nat} {i : Nat} : gadd D c i = true ↔ D i = true ∨ i ∈ c := by simp [gadd]
theorem gadd_false {D : Nat → Bool} {c : List Nat} {i : Nat} : gadd D c i = false ↔ D i = false ∧ i ∉ c := by simp [gadd]
def it (f : Nat → Nat) : Nat → Nat → Nat
  | 0, s => s
  | k + 1, s => it f k (f s)
/-- A list that f leads round, of those that are left. -/
structure Ring (n : Nat) (f : Nat → Nat) (D : Nat → Bool) (c : List Nat) : Prop where
  pos : 0 < c.length
  nd : c.Nodup
  lt : ∀ i ∈ c, i < n
  left : ∀ i ∈ c, D i = false
  nxt : ∀ k, k < c.length → f (c.getD k 0) = c.getD ((k + 1) % c.length) 0
structure Cyc (n : Nat) (f : Nat → Nat) (D : Nat → Bool) (c : List Nat) : Prop extends Ring n f D c where
  least : ∀ i ∈ c, c.getD 0 0 ≤ i
  reach : ∃ s, s < n ∧ (∀ j, j < s → D j = true) ∧ D s = false ∧ ∃ k, it f k s ∈ c
inductive RunTo (n : Nat) (F : (Nat → Bool) → Nat → Nat) : List (List Nat) → (Nat → Bool) → Prop
  | nil : RunTo n F [] (fun _ => false)
  | snoc {cs : List (List Nat)} {D : Nat → Bool} {c : List Nat} : RunTo n F cs D → Cyc n (F D) D c → RunTo n F (cs ++ [c]) (gadd D c)
theorem getD_mem {c : List Nat} {k : Nat} (h : k < c.length) : c.getD k 0 ∈ c := by
  rw [List.getD_eq_getElem?_getD, List.getElem?_eq_getElem h]; exact List.getElem_mem h
theorem mem_getD {c : List Nat} {i : Nat} (h : i ∈ c) : ∃ k, k < c.length ∧ c.getD k 0 = i := by
  obtain ⟨k, hk, e⟩ := List.mem_iff_getElem.1 h
  exact ⟨k, hk, by rw [List.getD_eq_getElem?_getD, List.getElem?_eq_getElem hk]; exact e⟩
theorem getD_inj {c : List Nat} (h : c.Nodup) {j k : Nat} (hj : j < c.length) (hk : k < c.length) (e : c.getD j 0 = c.getD k 0) : j = k := by
  rw [List.getD_eq_getElem?_getD, List.getElem?_eq_getElem hj, List.getD_eq_getElem?_getD, List.getElem?_eq_getElem hk] at e
  have e' : c[j] = c[k] := e
  rcases Nat.lt_trichotomy j k with h1 | h1 | h1
  · exact absurd e' ((List.pairwise_iff_getElem.1 h) j k hj hk h1)
  · exact h1
  · exact absurd e'.symm ((List.pairwise_iff_getElem.1 h) k j hk hj h1)
/-- A list from its place j on, round. -/
def rot (j : Nat) (c : List Nat) : List Nat := c.drop j ++ c.take j
theorem rot_length {j : Nat} {c : List Nat} (h : j < c.length) : (rot j c).length = c.length := by simp [rot]; omega
theorem rot_mem {j : Nat} {c : List Nat} {i : Nat} : i ∈ rot j c ↔ i ∈ c := by
  unfold rot
  rw [List.mem_append, or_comm, ← List.mem_append, List.take_append_drop]
theorem rot_nd {j : Nat} {c : List Nat} (h : c.Nodup) : (rot j c).Nodup := by
  have : (rot j c).Perm c := by
    unfold rot
    exact (List.perm_append_comm).trans (by rw [List.take_append_drop])
  exact this.nodup_iff.2 h
theorem rot_get {j : Nat} {c : List Nat} (h : j < c.length) (k : Nat) (hk : k < c.length) : (rot j c).getD k 0 = c.getD ((j + k) % c.length) 0 := by
  unfold rot
  simp only [List.getD_eq_getElem?_getD]
  by_cases e : j + k < c.length
  · rw [List.getElem?_append_left (by simp; omega), List.getElem?_drop, Nat.mod_eq_of_lt e]
  · have e2 : (j + k) % c.length = j + k - c.length := by
      rw [Nat.mod_eq_sub_mod (by omega), Nat.mod_eq_of_lt (by omega)]
    rw [List.getElem?_append_right (by simp; omega), e2, List.getElem?_take]
    rw [if_pos (by simp; omega)]
    congr 2
    simp; omega
theorem Ring.rot {n : Nat} {f : Nat → Nat} {D : Nat → Bool} {c : List Nat} (h : Ring n f D c) {j : Nat} (hj : j < c.length) : Ring n f D (rot j c) := by
  have hl := rot_length hj
  refine ⟨by rw [hl]; exact h.pos, rot_nd h.nd, fun i hi => h.lt i (rot_mem.1 hi), fun i hi => h.left i (rot_mem.1 hi), fun k hk => ?_⟩
  rw [hl] at hk ⊢
  have hp := h.pos
  have h1 : (j + k) % c.length < c.length := Nat.mod_lt _ hp
  have h2 : (k + 1) % c.length < c.length := Nat.mod_lt _ hp
  rw [rot_get hj k hk, h.nxt _ h1, rot_get hj _ h2]
  congr 1
  rw [Nat.mod_add_mod, Nat.add_mod_mod]
  congr 1
theorem it_succ (f : Nat → Nat) : ∀ k s, it f (k + 1) s = f (it f k s)
  | 0, s => rfl
  | k + 1, s => it_succ f k (f s)
/-- The way: from the least that is left, each at the one at which the one ahead points. -/
structure Way (n : Nat) (f : Nat → Nat) (D : Nat → Bool) (s : Nat) (l : List Nat) : Prop where
  nd : l.Nodup
  lt : ∀ i ∈ l, i < n
  left : ∀ i ∈ l, D i = false
  head : 0 < l.length → l.getD 0 0 = s
  nxt : ∀ k, k + 1 < l.length → f (l.getD k 0) = l.getD (k + 1) 0
theorem Way.nil (n : Nat) (f : Nat → Nat) (D : Nat → Bool) (s : Nat) : Way n f D s [] := ⟨by simp, by simp, by simp, by simp, fun k h => by simp at h⟩
theorem Way.one {n : Nat} {f : Nat → Nat} {D : Nat → Bool} {s : Nat} (h : s < n) (hD : D s = false) : Way n f D s [s] :=
  ⟨by simp, by simpa using h, by simpa using hD, fun _ => rfl, fun k h => by simp at h⟩
theorem Way.snoc {n : Nat} {f : Nat → Nat} {D : Nat → Bool} {s : Nat} {l : List Nat} (h : Way n f D s l) (h0 : 0 < l.length) {x : Nat} (hx : f (l.getD (l.length - 1) 0) = x) (hn : x ∉ l) (hl : x < n) (hD : D x = false) : Way n f D s (l ++ [x]) := by
  refine ⟨?_, ?_, ?_, ?_, ?_⟩
  · rw [List.nodup_append]
    exact ⟨h.nd, by simp, fun a ha b hb e => by simp at hb; subst hb; subst e; exact hn ha⟩
  · intro i hi
    rcases List.mem_append.1 hi with e | e
    · exact h.lt i e
    · rw [List.mem_singleton.1 e]; exact hl
  · intro i hi
    rcases List.mem_append.1 hi with e | e
    · exact h.left i e
    · rw [List.mem_singleton.1 e]; exact hD
  · intro _
    rw [List.getD_eq_getElem?_getD, List.getElem?_append_left h0, ← List.getD_eq_getElem?_getD]
    exact h.head h0
  · intro k hk
    simp only [List.length_append, List.length_singleton] at hk
    simp only [List.getD_eq_getElem?_getD] at hx ⊢
    rw [List.getElem?_append_left (by omega)]
    by_cases e : k + 1 = l.length
    · rw [List.getElem?_append_right (by omega), e, Nat.sub_self]
      rw [show k = l.length - 1 by omega, hx]
      rfl
    · rw [List.getElem?_append_left (by omega), ← List.getD_eq_getElem?_getD, ← List.getD_eq_getElem?_getD]
      exact h.nxt k (by omega)
theorem Way.it {n : Nat} {f : Nat → Nat} {D : Nat → Bool} {s : Nat} {l : List Nat} (h : Way n f D s l) : ∀ k, k < l.length → it f k s = l.getD k 0
  | 0, hk => (h.head hk).symm
  | k + 1, hk => by rw [it_succ, Way.it h k (by omega)]; exact h.nxt k hk
theorem Way.ring {n : Nat} {f : Nat → Nat} {D : Nat → Bool} {s : Nat} {l : List Nat} (h : Way n f D s l) {p : Nat} (hp : p < l.length) (hx : f (l.getD (l.length - 1) 0) = l.getD p 0) : Ring n f D (l.drop p) := by
  have hl : (l.drop p).length = l.length - p := by simp
  have hg : ∀ k, (l.drop p).getD k 0 = l.getD (p + k) 0 := fun k => by simp [List.getD_eq_getElem?_getD, List.getElem?_drop]
  refine ⟨by omega, h.nd.sublist (List.drop_sublist _ _), fun i hi => h.lt i (List.mem_of_mem_drop hi), fun i hi => h.left i (List.mem_of_mem_drop hi), fun k hk => ?_⟩
  rw [hg, hg, hl]
  rw [hl] at hk
  by_cases e : k + 1 = l.length - p
  · rw [e, Nat.mod_self, Nat.add_zero, ← hx]
    congr 2
    omega
  · rw [Nat.mod_eq_of_lt (by omega), h.nxt (p + k) (by omega)]
    rfl
theorem Way.cyc {n : Nat} {f : Nat → Nat} {D : Nat → Bool} {s : Nat} {l : List Nat} (h : Way n f D s l) {p : Nat} (hp : p < l.length) (hx : f (l.getD (l.length - 1) 0) = l.getD p 0) (hs : ∀ j, j < s → D j = true) {j : Nat} (hj : j < (l.drop p).length)
    (hm : ∀ i ∈ l.drop p, (l.drop p).getD j 0 ≤ i) : Cyc n f D (rot j (l.drop p)) := by
  have hr := h.ring hp hx
  have h0 : 0 < l.length := by omega
  have hs0 : s ∈ l := by rw [← h.head h0]; exact getD_mem h0
  refine ⟨hr.rot hj, fun i hi => ?_, s, h.lt s hs0, hs, h.left s hs0, p, ?_⟩
  · rw [rot_get hj 0 hr.pos, Nat.add_zero, Nat.mod_eq_of_lt hj]
    exact hm i (rot_mem.1 hi)
  · rw [rot_mem, h.it p hp]
    have : l.getD p 0 = (l.drop p).getD 0 0 := by simp [List.getD_eq_getElem?_getD, List.getElem?_drop]
    rw [this]
    exact getD_mem hr.pos
theorem live_some {is : List Int} {D : Nat → Bool} {x : Int} {k : Nat} (h : liveAt is D x = some k) : k < is.length ∧ D k = false ∧ is[k]? = some x := by
  unfold liveAt at h
  cases e : is.findIdx? (· == x) with
  | none => rw [e] at h; cases h
  | some j =>
    rw [e] at h
    simp only at h
    split at h
    · cases h
    · rename_i hd
      cases h
      obtain ⟨h1, h2, _⟩ := List.findIdx?_eq_some_iff_getElem.1 e
      exact ⟨h1, by simpa using hd, by rw [List.getElem?_eq_getElem h1]; simp at h2; rw [h2]⟩
/-- One who is left points at one who is left. -/
theorem pts_left {is : List Int} {ws : List (List Int)} {D : Nat → Bool} {i : Nat} (hi : i < is.length) (hD : D i = false) : pts is ws D i < is.length ∧ D (pts is ws D i) = false := by
  unfold pts
  cases e : (ws.getD i []).findSome? (liveAt is D) with
  | none => exact ⟨hi, hD⟩
  | some k =>
    obtain ⟨x, _, hx⟩ := List.exists_of_findSome?_eq_some e
    have := live_some hx
    exact ⟨this.1, this.2.1⟩
end Go.Proofs.Ytpikmcapnmdmbaa
