/-
  Lists of a call's own that are written full of marks and gone on with: what each shows; the same text for every seat (no program in it).
-/
import Derived.Test.YtbggibdldadpiaaGrow
namespace Go.K
open Go.RowKit
set_option linter.unusedVariables false
set_option linter.unusedSimpArgs false
def rV (r : Option Addr × Nat × Nat) : Value := .slice r.1 r.2.1 r.2.2
def flatM (mk : Nat → List Value) (k : Nat) : List Value := (List.range k).flatMap mk
theorem flatM_succ (mk : Nat → List Value) (k : Nat) : flatM mk (k + 1) = flatM mk k ++ mk k := by unfold flatM; rw [List.range_succ, List.flatMap_append]; simp
theorem flatM_len {mk : Nat → List Value} {sz : Nat} (h : ∀ q, (mk q).length = sz) : ∀ k, (flatM mk k).length = k * sz
  | 0 => by simp [flatM]
  | k + 1 => by rw [flatM_succ, List.length_append, flatM_len h k, h, Nat.succ_mul]
theorem flatM_get {mk : Nat → List Value} {sz : Nat} (h : ∀ q, (mk q).length = sz) (k q j : Nat) (hq : q < k) (hj : j < sz) : (flatM mk k)[q * sz + j]? = (mk q)[j]? := by
  induction k with
  | zero => omega
  | succ k ih =>
    rw [flatM_succ]
    by_cases e : q = k
    · subst e
      rw [List.getElem?_append_right (by rw [flatM_len h]; omega), flatM_len h]
      congr 1; omega
    · have h1 : (q + 1) * sz ≤ k * sz := Nat.mul_le_mul_right _ (by omega)
      rw [Nat.succ_mul] at h1
      rw [List.getElem?_append_left (by rw [flatM_len h]; omega)]
      exact ih (by omega)
/-- A list of which the first k things are marked. -/
def RowA (B : Nat) (t : TypeId) (sz : Nat) (mk : Nat → List Value) (W : World) (r : Option Addr × Nat × Nat) (k : Nat) : Prop := ∃ xs, W.ownsRow B t sz (rV r) r.2.1 xs ∧ xs.take (k * sz) = flatM mk k
theorem RowA.only {B : Nat} {t : TypeId} {sz : Nat} {mk : Nat → List Value} {W W' : World} {r : Option Addr × Nat × Nat} {k : Nat} {S : Nat → Prop} (h : RowA B t sz mk W r k) (ho : Only S W W') (hn : ∀ b, (rV r).ownBlock = some b → ¬ S b) : RowA B t sz mk W' r k := by
  obtain ⟨xs, h1, h2⟩ := h
  exact ⟨xs, ho.owns h1 hn, h2⟩
theorem RowA.full {B : Nat} {t : TypeId} {sz : Nat} {mk : Nat → List Value} {W : World} {r : Option Addr × Nat × Nat} (h : RowA B t sz mk W r r.2.1) : W.ownsRow B t sz (rV r) r.2.1 (flatM mk r.2.1) := by
  obtain ⟨xs, h1, h2⟩ := h
  rw [List.take_of_length_le (Nat.le_of_eq h1.1)] at h2
  rw [← h2]; exact h1
theorem RowA.start {B : Nat} {t : TypeId} {sz : Nat} {mk : Nat → List Value} {W : World} {r : Option Addr × Nat × Nat} {xs : List Value} (h : W.ownsRow B t sz (rV r) r.2.1 xs) : RowA B t sz mk W r 0 := ⟨xs, h, by simp [flatM]⟩
/-- One thing more is marked. -/
theorem RowA.mark {B : Nat} {t : TypeId} {sz : Nat} {mk : Nat → List Value} {W : World} {r : Option Addr × Nat × Nat} {k : Nat} (h : RowA B t sz mk W r k) (hm : ∀ q, (mk q).length = sz) (hk : k < r.2.1) :
    ∃ g cur, r.1 = some ⟨g, 0, none⟩ ∧ W.heap[g]? = some (.cells cur t (0, 0)) ∧ k * sz + sz ≤ cur.size ∧ ∀ W', Put W g (.cells (cur.toList.take (k * sz) ++ mk k ++ cur.toList.drop (k * sz + sz)).toArray t) W' → RowA B t sz mk W' r (k + 1) := by
  obtain ⟨a, n, c⟩ := r
  obtain ⟨xs, h1, h2⟩ := h
  simp only at hk
  obtain ⟨g, cap, cur, hv, _⟩ := owns_cases h1 (by show 0 < n; omega)
  injection hv with h3 h4 h5
  subst h3 h5
  have hle : (k + 1) * sz ≤ n * sz := Nat.mul_le_mul_right _ (by omega)
  rw [Nat.succ_mul] at hle
  obtain ⟨cur2, q1, q2, q3⟩ := own_over h1 (k * sz) (mk k) (by rw [hm]; exact hle)
  rw [hm] at q2 q3
  refine ⟨g, cur2, rfl, q1, q2, fun W' hp => ⟨over xs (k * sz) (mk k), q3 W' hp, ?_⟩⟩
  rw [flatM_succ, ← h2]
  unfold over
  have hx : xs.length = n * sz := h1.1
  have e : (k + 1) * sz = (xs.take (k * sz) ++ mk k).length := by rw [List.length_append, List.length_take, hm, Nat.succ_mul]; omega
  rw [e, List.take_left]
/-- A list that was gone on with. -/
def LongA (B : Nat) (t : TypeId) (sz : Nat) (mk : Nat → List Value) (W : World) (n k : Nat) (u : Value) : Prop := ∃ xs, xs.length = n * sz ∧ W.ownsRow B t sz u (n + k) (xs ++ flatM mk k)
theorem LongA.only {B : Nat} {t : TypeId} {sz : Nat} {mk : Nat → List Value} {W W' : World} {n k : Nat} {u : Value} {S : Nat → Prop} (h : LongA B t sz mk W n k u) (ho : Only S W W') (hn : ∀ b, u.ownBlock = some b → ¬ S b) : LongA B t sz mk W' n k u := by
  obtain ⟨xs, h1, h2⟩ := h
  exact ⟨xs, h1, ho.owns h2 hn⟩
theorem LongA.cell {B : Nat} {t : TypeId} {sz : Nat} {mk : Nat → List Value} {W : World} {n k : Nat} {u : Value} (h : LongA B t sz mk W n k u) (hm : ∀ q, (mk q).length = sz) (hk : 0 < k) : ∃ g c, u = .slice (some ⟨g, 0, none⟩) (n + k) c ∧
    ∀ q j v, q < k → j < sz → (mk q)[j]? = some v → W.cell? ⟨g, (n + q) * sz + j, none⟩ = some v := by
  obtain ⟨xs, h1, h2⟩ := h
  obtain ⟨g, cap, cur, rfl, _⟩ := owns_cases h2 (by omega)
  refine ⟨g, cap, rfl, fun q j v hq hj hv => ?_⟩
  have h3 := h2.cells (g := g) rfl ((n + q) * sz + j) v (by
    rw [List.getElem?_append_right (by rw [h1, Nat.add_mul]; omega), h1, ← hv, ← flatM_get hm k q j hq hj]
    congr 1
    rw [Nat.add_mul]; omega)
  rw [add_spot, Nat.zero_add] at h3
  exact h3
theorem sl_prefix {W : World} {a : Option Addr} {xs ys : List Value} (h : Sl W a (xs ++ ys)) : Sl W a xs := by
  intro hne
  obtain ⟨b, off, he, hc⟩ := h (fun e => hne (List.append_eq_nil_iff.1 e).1)
  refine ⟨b, off, he, fun i hi => ?_⟩
  rw [hc i (by rw [List.length_append]; omega), List.getElem?_append_left hi]
theorem owns_sl {W : World} {B : Nat} {t : TypeId} {sz n : Nat} {r : Option Addr × Nat × Nat} {xs : List Value} (h : W.ownsRow B t sz (rV r) n xs) : Sl W r.1 xs := by
  rcases h.2 with ⟨h1, h0⟩ | ⟨g, cap, cur, hv, _⟩
  · have hx : xs = [] := List.eq_nil_of_length_eq_zero (by rw [h.1, h0, Nat.zero_mul])
    rw [hx]; exact Sl.nil _ _
  · have h2 := h
    rw [hv] at h2
    injection hv with h3
    rw [h3]
    exact sl_of_owns h2
theorem owns_zero {W : World} {B : Nat} {t : TypeId} {sz n b off : Nat} {r : Option Addr × Nat × Nat} {xs : List Value} (h : W.ownsRow B t sz (rV r) n xs) (e : r.1 = some ⟨b, off, none⟩) : off = 0 := by
  rcases h.2 with ⟨h1, _⟩ | ⟨g, cap, cur, hv, _⟩
  · unfold rV at h1; injection h1 with h1; rw [e] at h1; cases h1
  · unfold rV at hv; injection hv with h1; rw [e] at h1; injection h1 with h1; injection h1
/-- The going on: k things stand behind the list, and the list itself shows what it showed. -/
structure GoA (B : Nat) (t : TypeId) (sz : Nat) (mk1 mk2 : Nat → List Value) (W4 W : World) (r : Option Addr × Nat × Nat) (k : Nat) (v : Value) : Prop where
  own : W.ownsRow B t sz v (r.2.1 + k) (flatM mk1 r.2.1 ++ flatM mk2 k)
  sl : Sl W r.1 (flatM mk1 r.2.1)
  only : Only (fun b => (rV r).ownBlock = some b) W4 W
  at' : v.ownBlock = (rV r).ownBlock ∨ ∃ b, v.ownBlock = some b ∧ W4.heap.size ≤ b
  lt : ∀ b, (rV r).ownBlock = some b → b < W4.heap.size
  zero : ∀ b off, r.1 = some ⟨b, off, none⟩ → off = 0
theorem GoA.start {B : Nat} {t : TypeId} {sz : Nat} {mk1 mk2 : Nat → List Value} {W : World} {r : Option Addr × Nat × Nat} (h : W.ownsRow B t sz (rV r) r.2.1 (flatM mk1 r.2.1)) : GoA B t sz mk1 mk2 W W r 0 (rV r) :=
  ⟨by simpa [flatM] using h, owns_sl h, Only.refl _ _, .inl rfl, fun b hb => (h.lt b hb).2, fun b off e => owns_zero h e⟩
theorem sl_grown {W W' : World} {a : Option Addr} {vs : List Value} {row : Option Nat} (h : Sl W a vs) (hg : W.grownBy W' row) (hn : ∀ b off, a = some ⟨b, off, none⟩ → some b ≠ row) : Sl W' a vs := by
  intro hne
  obtain ⟨b, off, he, hc⟩ := h hne
  refine ⟨b, off, he, fun i hi => ?_⟩
  have h1 := hc i hi
  rw [List.getElem?_eq_getElem hi] at h1 ⊢
  exact hg.cell h1 (hn b off he)
/-- One thing more is appended. -/
theorem GoA.next {B : Nat} {t : TypeId} {sz : Nat} {mk1 mk2 : Nat → List Value} {W4 W W' : World} {r : Option Addr × Nat × Nat} {k : Nat} {v v' : Value} {X : Obj} (h : GoA B t sz mk1 mk2 W4 W r k v)
    (ho : W'.ownsRow B t sz v' (r.2.1 + k + 1) (flatM mk1 r.2.1 ++ flatM mk2 k ++ mk2 k)) (hg : (W.alloc X).grownBy W' v.ownBlock)
    (hl : (v'.ownBlock = v.ownBlock ∧ v.ownBlock ≠ none) ∨ (v'.ownBlock = some (W.alloc X).heap.size ∧ Below (W.alloc X).heap.size (W.alloc X) W')) : GoA B t sz mk1 mk2 W4 W' r (k + 1) v' := by
  have hal : Below W.heap.size W (W.alloc X) := (Below.refl _ _).alloc (Nat.le_refl _) X
  have hsz := h.only.size
  refine ⟨?_, ?_, ?_, ?_, h.lt, h.zero⟩
  · rw [flatM_succ, ← List.append_assoc, ← Nat.add_assoc]; exact ho
  · rcases hl with ⟨h1, h2⟩ | ⟨h1, h2⟩
    · rcases h.at' with h3 | ⟨b, h3, h4⟩
      · rcases ho.2 with ⟨h5, _⟩ | ⟨g, cap, cur, hv, _⟩
        · rw [h5] at h1; exact absurd h1.symm h2
        · have h6 : (rV r).ownBlock = some g := by rw [← h3, ← h1, hv]; rfl
          rw [hv] at ho
          have h8 := sl_prefix (sl_prefix (sl_of_owns ho))
          have h9 : ∀ b off, r.1 = some ⟨b, off, none⟩ → b = g := by
            intro b off e
            unfold rV at h6
            rw [e] at h6
            simpa [Value.ownBlock] using h6
          intro hne
          obtain ⟨b, off, he, hc⟩ := h.sl hne
          have := h9 b off he
          subst this
          obtain ⟨b2, off2, he2, hc2⟩ := h8 hne
          cases he2
          refine ⟨b, off, he, fun i hi => ?_⟩
          rw [h.zero b off he]
          exact hc2 i hi
      · refine sl_grown (h.sl.kept hal) hg (fun b' off e => ?_)
        rw [h3]
        intro e2
        injection e2 with e2
        have := h.lt b' (by unfold rV; rw [e]; rfl)
        omega
    · exact (h.sl.kept hal).kept h2
  · refine (h.only.trans (T := fun b => v.ownBlock = some b) ((Only.of_below hal).trans (Only.of_grown (S := fun b => v.ownBlock = some b) hg (fun b hb => hb)) (fun b hb => .inl hb)) (fun b hb => ?_))
    rcases h.at' with h3 | ⟨b2, h3, h4⟩
    · exact .inl (h3 ▸ hb)
    · rw [h3] at hb; injection hb with hb; exact .inr (hb ▸ h4)
  · rcases hl with ⟨h1, h2⟩ | ⟨h1, h2⟩
    · rw [h1]; exact h.at'
    · exact .inr ⟨_, h1, by simp; omega⟩
end Go.K
