/-
  Layer 19: lists of a call's own that are written full of marks and gone on with, each state of them kept in a list: what each shows.
-/
import Derived.Test.YtbggibdldadpiaaGrow
import Derived.Test.YtbggibdldadpiaaJd
namespace Go.Proofs.Ytbggibdldadpiaa
open Go.RowKit Go.K
set_option linter.unusedVariables false
set_option linter.unusedSimpArgs false
abbrev R3 := Option Addr × Nat × Nat
def r3 (r : R3) : Value := .slice r.1 r.2.1 r.2.2
def V5 (i : Nat) : Value := .int .i64 (-500000 - (i : Int))
def V6 (i : Nat) : Value := .int .i64 (-600000 - (i : Int))
def c5 (i n : Nat) : List Value := List.replicate n (V5 i)
def c6 (i n m : Nat) : List Value := List.replicate n (V5 i) ++ List.replicate m (V6 i)
theorem c5_len (i n : Nat) : (c5 i n).length = n := by unfold c5; simp
theorem c6_len (i n m : Nat) : (c6 i n m).length = n + m := by unfold c6; simp
theorem c6_zero (i n : Nat) : c6 i n 0 = c5 i n := by unfold c6 c5; simp
theorem c6_succ (i n m : Nat) : c6 i n (m + 1) = c6 i n m ++ [V6 i] := by unfold c6; rw [List.replicate_succ', List.append_assoc]
theorem c6_pre (i n m k : Nat) (h : m ≤ k) : (c6 i n k).take (n + m) = c6 i n m := by
  unfold c6
  rw [List.take_append, List.length_replicate, List.take_of_length_le (by simp), List.take_replicate, show min (n + m - n) k = m by omega]
theorem c6_low (i n m k : Nat) (h : k < n) : (c6 i n m)[k]? = some (V5 i) := by
  unfold c6
  rw [List.getElem?_append_left (by simpa using h), List.getElem?_replicate, if_pos h]
theorem c6_high (i n m k : Nat) (h : k < m) : (c6 i n m)[n + k]? = some (V6 i) := by
  unfold c6
  rw [List.getElem?_append_right (by simp), List.length_replicate, List.getElem?_replicate, if_pos (by omega)]
def ownS (l : List R3) (b : Nat) : Prop := ∃ r ∈ l, (r3 r).ownBlock = some b
/-- Lists in blocks of their own. -/
structure Fam (B : Nat) (w : World) (l : List R3) : Prop where
  own : ∀ i (h : i < l.length), ∃ xs, w.ownsRow B 3 1 (r3 l[i]) l[i].2.1 xs
  dis : ∀ i j (h : i < l.length) (h' : j < l.length), i ≠ j → ∀ b, (r3 l[i]).ownBlock = some b → (r3 l[j]).ownBlock ≠ some b
/-- A list of lists, as it lies. -/
theorem cont_at {W : World} {a : Option Addr} {l : List R3} (h : Sl W a (l.map r3)) (i : Nat) (hi : i < l.length) : ∃ b off, a = some ⟨b, off, none⟩ ∧ W.cell? ⟨b, off + i, none⟩ = some (.slice l[i].1 l[i].2.1 l[i].2.2) := by
  obtain ⟨b, off, he, hc⟩ := h (fun e => by have := congrArg List.length e; simp at this; rw [this] at hi; simp at hi)
  refine ⟨b, off, he, ?_⟩
  have h1 := hc i (by rw [List.length_map]; exact hi)
  rw [List.getElem?_map, List.getElem?_eq_getElem hi] at h1
  exact h1
/-- A list of which the first k things are marked. -/
def RowM (B : Nat) (W : World) (r : R3) (i k : Nat) : Prop := ∃ xs, W.ownsRow B 3 1 (r3 r) r.2.1 xs ∧ xs.take k = c5 i k
theorem RowM.only {B : Nat} {W W' : World} {r : R3} {i k : Nat} {S : Nat → Prop} (h : RowM B W r i k) (ho : Only S W W') (hn : ∀ b, (r3 r).ownBlock = some b → ¬ S b) : RowM B W' r i k := by
  obtain ⟨xs, h1, h2⟩ := h
  exact ⟨xs, ho.owns h1 hn, h2⟩
theorem RowM.full {B : Nat} {W : World} {r : R3} {i : Nat} (h : RowM B W r i r.2.1) : W.ownsRow B 3 1 (r3 r) r.2.1 (c5 i r.2.1) := by
  obtain ⟨xs, h1, h2⟩ := h
  rw [List.take_of_length_le (by have := h1.1; omega)] at h2
  rw [← h2]; exact h1
theorem RowM.start {B : Nat} {W : World} {r : R3} {i : Nat} {xs : List Value} (h : W.ownsRow B 3 1 (r3 r) r.2.1 xs) : RowM B W r i 0 := ⟨xs, h, by simp [c5]⟩
theorem RowM.mark {B : Nat} {W : World} {r : R3} {i k : Nat} (h : RowM B W r i k) (hk : k < r.2.1) :
    ∃ g cur, r.1 = some ⟨g, 0, none⟩ ∧ W.heap[g]? = some (.cells cur 3 (0, 0)) ∧ k + 1 ≤ cur.size ∧ ∀ W', Put W g (.cells (cur.toList.take k ++ [V5 i] ++ cur.toList.drop (k + 1)).toArray 3) W' → RowM B W' r i (k + 1) := by
  obtain ⟨a, n, c⟩ := r
  obtain ⟨xs, h1, h2⟩ := h
  simp only at hk
  obtain ⟨g, cap, cur, hv, _⟩ := owns_cases h1 (by show 0 < n; omega)
  injection hv with h3 h4 h5
  subst h3 h5
  obtain ⟨cur2, q1, q2, q3⟩ := own_over h1 k [V5 i] (by simp; omega)
  refine ⟨g, cur2, rfl, q1, q2, fun W' hp => ⟨over xs k [V5 i], q3 W' hp, ?_⟩⟩
  have hx : xs.length = n * 1 := h1.1
  unfold over
  have e : k + 1 = (xs.take k ++ [V5 i]).length := by rw [List.length_append, List.length_take]; simp; omega
  have e2 : c5 i (k + 1) = xs.take k ++ [V5 i] := by rw [h2]; unfold c5; rw [List.replicate_succ']
  rw [e2, e, List.take_left]
theorem owns_apart {W : World} {B B' : Nat} {e e' : TypeId} {s s' n n' : Nat} {v v' : Value} {xs xs' : List Value} (h : W.ownsRow B e s v n xs) (h' : W.ownsRow B' e' s' v' n' xs') (hne : e ≠ e') : v.ownBlock = none ∨ v.ownBlock ≠ v'.ownBlock := by
  rcases h.2 with ⟨rfl, _⟩ | ⟨g, cap, cur, rfl, _, hr, _⟩
  · exact .inl rfl
  · refine .inr fun he => ?_
    rcases h'.2 with ⟨rfl, _⟩ | ⟨g', cap', cur', rfl, _, hr', _⟩
    · cases he
    · simp only [Value.ownBlock, Option.some.injEq] at he
      subst he
      rw [hr] at hr'
      injection hr' with h1
      injection h1 with _ h2
      exact hne h2
/-- A slice of a block of the kind, as it shows from its beginning. -/
def Ver (W : World) (a : Option Addr) (xs : List Value) : Prop := xs ≠ [] → ∃ g cur, a = some ⟨g, 0, none⟩ ∧ W.heap[g]? = some (.cells cur 3 (0, 0)) ∧ cur.toList.take xs.length = xs
theorem Ver.of_owns {W : World} {B n : Nat} {a : Option Addr} {c : Nat} {xs : List Value} (h : W.ownsRow B 3 1 (.slice a n c) n xs) : Ver W a xs := by
  intro hne
  rcases h.2 with ⟨h1, h0⟩ | ⟨g, cap, cur, hv, hbg, hg, hnc, hcm, hcs, ht⟩
  · exact absurd (List.eq_nil_of_length_eq_zero (by rw [h.1, h0, Nat.zero_mul])) hne
  · injection hv with h1 h2 h3
    subst h1
    exact ⟨g, cur, rfl, hg, by rw [h.1]; exact ht⟩
theorem Ver.take {W : World} {a : Option Addr} {xs : List Value} {m : Nat} (h : Ver W a xs) : Ver W a (xs.take m) := by
  intro hne
  obtain ⟨g, cur, e, hg, ht⟩ := h (fun e => hne (by rw [e]; simp))
  refine ⟨g, cur, e, hg, ?_⟩
  rw [List.length_take, ← List.take_take, ht]
theorem Ver.sl {W : World} {a : Option Addr} {xs : List Value} (h : Ver W a xs) : Sl W a xs := by
  intro hne
  obtain ⟨g, cur, e, hg, ht⟩ := h hne
  refine ⟨g, 0, e, fun i hi => ?_⟩
  rw [Nat.zero_add, cell_of_row _ _ _ _ _ _ hg]
  have h1 : (cur.toList.take xs.length)[i]? = xs[i]? := by rw [ht]
  rw [List.getElem?_take, if_pos hi] at h1
  rw [← h1]; simp
theorem Ver.only {W W' : World} {a : Option Addr} {xs : List Value} {S : Nat → Prop} (h : Ver W a xs) (ho : Only S W W') (hn : ∀ y, a = some y → ¬ S y.block) : Ver W' a xs := by
  intro hne
  obtain ⟨g, cur, e, hg, ht⟩ := h hne
  exact ⟨g, cur, e, ho.row hg (hn _ e), ht⟩
theorem Ver.alloc {W : World} {a : Option Addr} {xs : List Value} (h : Ver W a xs) (X : Obj) : Ver (W.alloc X) a xs := by
  intro hne
  obtain ⟨g, cur, e, hg, ht⟩ := h hne
  exact ⟨g, cur, e, row_kept hg ((Below.refl _ _).alloc (Nat.le_refl _) X), ht⟩
theorem Ver.other {W W' : World} {a : Option Addr} {xs : List Value} {B t sz n : Nat} {v : Value} {us : List Value} (h : Ver W a xs) (ho : W.ownsRow B t sz v n us) (ht : t ≠ 3) (hg : W.grownBy W' v.ownBlock) : Ver W' a xs := by
  intro hne
  obtain ⟨g, cur, e, hr, hk⟩ := h hne
  refine ⟨g, cur, e, ?_, hk⟩
  rw [hg.block g (lt_row hr) (fun e2 => ?_)]
  · exact hr
  · rcases ho.2 with ⟨h1, _⟩ | ⟨g2, cap, cur2, hv, _, hr2, _⟩
    · rw [h1] at e2; cases e2
    · rw [hv] at e2
      have e3 : g = g2 := by simpa [Value.ownBlock] using e2
      exact rows_ne hr2 hr ht e3.symm
theorem Ver.append {W W' : World} {a : Option Addr} {xs ys : List Value} {B m : Nat} {v v' : Value} (h : Ver W a xs) (ho : W'.ownsRow B 3 1 v' m ys) (hg : W.grownBy W' v.ownBlock)
    (hl : (v'.ownBlock = v.ownBlock ∧ v.ownBlock ≠ none) ∨ (v'.ownBlock = some W.heap.size ∧ Below W.heap.size W W')) (hp : ∀ y, a = some y → v.ownBlock = some y.block → ys.take xs.length = xs) : Ver W' a xs := by
  intro hne
  obtain ⟨g, cur, e, hr, hk⟩ := h hne
  rcases hl with ⟨h1, h2⟩ | ⟨h1, h2⟩
  · by_cases hb : v.ownBlock = some g
    · rcases ho.2 with ⟨h3, _⟩ | ⟨g2, cap, cur2, hv, _, hr2, hnc, hcm, hcs, ht⟩
      · rw [← h1, h3] at hb; cases hb
      · have e3 : g2 = g := by rw [← h1, hv] at hb; simpa [Value.ownBlock] using hb
        subst e3
        have hq := hp _ e hb
        refine ⟨g2, cur2, e, hr2, ?_⟩
        have hle : xs.length ≤ m * 1 := by
          have h4 := congrArg List.length hq
          rw [List.length_take, ho.1] at h4
          omega
        rw [← hq, ← ht, List.length_take, List.take_take]
        have hc2 : cur2.toList.length = cap * 1 := by simpa using hcs
        congr 1
        rw [List.length_take]
        omega
    · refine ⟨g, cur, e, ?_, hk⟩
      rw [hg.block g (lt_row hr) (fun e2 => hb e2.symm)]
      exact hr
  · exact ⟨g, cur, e, row_kept hr h2, hk⟩
/-- Block of a slice, as a list of its own has it. -/
theorem blk {r : R3} {y : Addr} (h : r.1 = some y) : (r3 r).ownBlock = some y.block := by unfold r3; rw [h]; rfl
/-- What holds between two lists: all states of the first j lists stand in us. -/
structure Out (B : Nat) (ls : List R3) (wA : World) (j : Nat) (W : World) (vG : Value) (us : List Value) : Prop where
  only : Only (ownS ls) wA W
  len : us.length = 40 * j
  own : W.ownsRow wA.heap.size 24 1 vG (40 * j) us
  lists : ∀ i' (h : i' < ls.length), Ver W ls[i'].1 (c5 i' ls[i'].2.1)
  rest : ∀ i' (h : i' < ls.length), j ≤ i' → W.ownsRow B 3 1 (r3 ls[i']) ls[i'].2.1 (c5 i' ls[i'].2.1)
  vers : ∀ t u, us[t]? = some u → ∀ i' (h : i' < ls.length), i' = t / 40 → ∃ a c, u = .slice a (ls[i'].2.1 + (t % 40 + 1)) c ∧ Ver W a (c6 i' ls[i'].2.1 (t % 40 + 1)) ∧ ∀ y, a = some y → (r3 ls[i']).ownBlock = some y.block ∨ wA.heap.size ≤ y.block
/-- What holds while list j is gone on with: kG states of it stand in us, kL things were appended. -/
structure Inv (B : Nat) (ls : List R3) (wA : World) (j : Nat) (hj : j < ls.length) (kG kL : Nat) (W : World) (vG : Value) (us : List Value) (vL : Value) : Prop where
  only : Only (ownS ls) wA W
  kk : kG ≤ kL ∧ kL ≤ 40
  len : us.length = 40 * j + kG
  own : W.ownsRow wA.heap.size 24 1 vG (40 * j + kG) us
  lists : ∀ i' (h : i' < ls.length), Ver W ls[i'].1 (c5 i' ls[i'].2.1)
  rest : ∀ i' (h : i' < ls.length), j < i' → W.ownsRow B 3 1 (r3 ls[i']) ls[i'].2.1 (c5 i' ls[i'].2.1)
  last : W.ownsRow B 3 1 vL (ls[j].2.1 + kL) (c6 j ls[j].2.1 kL)
  lat : (r3 ls[j]).ownBlock = vL.ownBlock ∨ ∃ b, vL.ownBlock = some b ∧ wA.heap.size ≤ b
  vers : ∀ t u, us[t]? = some u → ∀ i' (h : i' < ls.length), i' = t / 40 → ∃ a c, u = .slice a (ls[i'].2.1 + (t % 40 + 1)) c ∧ Ver W a (c6 i' ls[i'].2.1 (t % 40 + 1)) ∧ (∀ y, a = some y → (r3 ls[i']).ownBlock = some y.block ∨ wA.heap.size ≤ y.block) ∧
    (t < 40 * j → ∀ y, a = some y → vL.ownBlock ≠ some y.block ∧ y.block < W.heap.size)
theorem Out.start {B : Nat} {ls : List R3} {wA : World} (hw : ∀ i' (h : i' < ls.length), wA.ownsRow B 3 1 (r3 ls[i']) ls[i'].2.1 (c5 i' ls[i'].2.1)) : Out B ls wA 0 wA (.slice none 0 0) [] :=
  ⟨Only.refl _ _, rfl, World.ownsRow_nil _ _ _ _, fun i' h => Ver.of_owns (hw i' h), fun i' h _ => hw i' h, fun t u hu => by simp at hu⟩
theorem Out.enter {B : Nat} {ls : List R3} {wA : World} {j : Nat} {W : World} {vG : Value} {us : List Value} (h : Out B ls wA j W vG us) (hj : j < ls.length) (hf : Fam B wA ls) : Inv B ls wA j hj 0 0 W vG us (r3 ls[j]) := by
  refine ⟨h.only, ⟨Nat.le_refl _, by omega⟩, h.len, h.own, h.lists, fun i' hi hl => h.rest i' hi (by omega), by rw [c6_zero]; exact h.rest j hj (Nat.le_refl _), .inl rfl, ?_⟩
  intro t u hu i' hi e
  obtain ⟨a, c, h1, h2, h3⟩ := h.vers t u hu i' hi e
  refine ⟨a, c, h1, h2, h3, fun ht y hy => ?_⟩
  have hne : i' ≠ j := by omega
  obtain ⟨g, cur, e2, hr, _⟩ := h2 (by intro e3; have := congrArg List.length e3; rw [c6_len] at this; simp at this)
  have hlt : y.block < W.heap.size := by rw [hy] at e2; cases e2; exact lt_row hr
  refine ⟨fun e3 => ?_, hlt⟩
  rcases h3 y hy with h4 | h4
  · exact hf.dis i' j hi hj hne _ h4 e3
  · obtain ⟨xs, hx⟩ := hf.own j hj
    have := (hx.lt _ e3).2
    omega
theorem Inv.leave {B : Nat} {ls : List R3} {wA : World} {j : Nat} {hj : j < ls.length} {W : World} {vG : Value} {us : List Value} {vL : Value} (h : Inv B ls wA j hj 40 40 W vG us vL) : Out B ls wA (j + 1) W vG us :=
  ⟨h.only, by rw [h.len]; omega, by rw [show 40 * (j + 1) = 40 * j + 40 by omega]; exact h.own, h.lists, fun i' hi hl => h.rest i' hi (by omega), fun t u hu i' hi e => by
    obtain ⟨a, c, h1, h2, h3, _⟩ := h.vers t u hu i' hi e
    exact ⟨a, c, h1, h2, h3⟩⟩
/-- One thing is appended to the list. -/
theorem Inv.appL {B : Nat} {ls : List R3} {wA : World} {j : Nat} {hj : j < ls.length} {k : Nat} {W W' : World} {vG : Value} {us : List Value} {vL v' : Value} {X : Obj} (hf : Fam B wA ls) (h : Inv B ls wA j hj k k W vG us vL) (hk : k < 40)
    (ho : W'.ownsRow B 3 1 v' (ls[j].2.1 + k + 1) (c6 j ls[j].2.1 k ++ [V6 j])) (hg : (W.alloc X).grownBy W' vL.ownBlock)
    (hl : (v'.ownBlock = vL.ownBlock ∧ vL.ownBlock ≠ none) ∨ (v'.ownBlock = some (W.alloc X).heap.size ∧ Below (W.alloc X).heap.size (W.alloc X) W')) : Inv B ls wA j hj k (k + 1) W' vG us v' := by
  have hal : Below W.heap.size W (W.alloc X) := (Below.refl _ _).alloc (Nat.le_refl _) X
  have hsz := h.only.size
  have hsa : (W.alloc X).heap.size = W.heap.size + 1 := by simp
  have hjb : ∀ b, (r3 ls[j]).ownBlock = some b → b < wA.heap.size := fun b hb => by obtain ⟨xs, hx⟩ := hf.own j hj; exact (hx.lt _ hb).2
  have hib : ∀ i' (hi : i' < ls.length) b, (r3 ls[i']).ownBlock = some b → b < wA.heap.size := fun i' hi b hb => by obtain ⟨xs, hx⟩ := hf.own i' hi; exact (hx.lt _ hb).2
  have hne : ∀ i' (hi : i' < ls.length), i' ≠ j → ∀ b, (r3 ls[i']).ownBlock = some b → vL.ownBlock ≠ some b := fun i' hi hn b hb e => by
    rcases h.lat with h1 | ⟨b2, h1, h2⟩
    · exact hf.dis i' j hi hj hn b hb (h1.trans e)
    · rw [h1] at e; injection e with e; have := hib i' hi b hb; omega
  refine ⟨?_, ⟨by omega, by omega⟩, h.len, ?_, ?_, ?_, ?_, ?_, ?_⟩
  · refine h.only.trans (T := fun b => vL.ownBlock = some b) ((Only.of_below hal).trans (Only.of_grown (S := fun b => vL.ownBlock = some b) hg (fun b hb => hb)) (fun b hb => .inl hb)) (fun b hb => ?_)
    rcases h.lat with h1 | ⟨b2, h1, h2⟩
    · exact .inl ⟨_, List.getElem_mem hj, h1.trans hb⟩
    · rw [h1] at hb; injection hb with hb; exact .inr (hb ▸ h2)
  · exact (h.own.alloc X).kept hg (owns_apart (h.own.alloc X) (h.last.alloc X) (by decide))
  · intro i' hi
    refine ((h.lists i' hi).alloc X).append ho hg hl (fun y hy hb => ?_)
    by_cases e : i' = j
    · subst e
      rw [c5_len, ← c6_succ, ← c6_zero]
      exact c6_pre _ _ 0 _ (by omega)
    · exact absurd hb (hne i' hi e _ (blk hy))
  · intro i' hi hl2
    refine ((h.rest i' hi hl2).alloc X).kept hg ?_
    cases hb : (r3 ls[i']).ownBlock with
    | none => exact .inl rfl
    | some b => exact .inr (fun e => hne i' hi (by omega) b hb e.symm)
  · rw [c6_succ, ← Nat.add_assoc]; exact ho
  · rcases hl with ⟨h1, _⟩ | ⟨h1, _⟩
    · rw [h1]; exact h.lat
    · exact .inr ⟨_, h1, by omega⟩
  · intro t u hu i' hi e
    obtain ⟨a, c, h1, h2, h3, h4⟩ := h.vers t u hu i' hi e
    have ht : t < us.length := (List.getElem?_eq_some_iff.1 hu).1
    have hul := h.len
    refine ⟨a, c, h1, (h2.alloc X).append ho hg hl (fun y hy hb => ?_), h3, fun ht y hy => ?_⟩
    · by_cases ht2 : t < 40 * j
      · exact absurd hb (h4 ht2 y hy).1
      · have e2 : i' = j := by omega
        subst e2
        rw [c6_len, ← c6_succ]
        exact c6_pre _ _ _ _ (by omega)
    · obtain ⟨q1, q2⟩ := h4 ht y hy
      have := hg.size
      refine ⟨fun e2 => ?_, by omega⟩
      rcases hl with ⟨g1, _⟩ | ⟨g1, _⟩
      · exact q1 (g1.symm.trans e2)
      · rw [g1] at e2; injection e2 with e2; omega
/-- The list's new state is noted. -/
theorem Inv.appG {B : Nat} {ls : List R3} {wA : World} {j : Nat} {hj : j < ls.length} {k : Nat} {W W' : World} {vG v2 : Value} {us : List Value} {g c : Nat} {X : Obj}
    (h : Inv B ls wA j hj k (k + 1) W vG us (.slice (some ⟨g, 0, none⟩) (ls[j].2.1 + (k + 1)) c)) (ho : W'.ownsRow wA.heap.size 24 1 v2 (40 * j + k + 1) (us ++ [.slice (some ⟨g, 0, none⟩) (ls[j].2.1 + (k + 1)) c])) (hg : (W.alloc X).grownBy W' vG.ownBlock) :
    Inv B ls wA j hj (k + 1) (k + 1) W' v2 (us ++ [.slice (some ⟨g, 0, none⟩) (ls[j].2.1 + (k + 1)) c]) (.slice (some ⟨g, 0, none⟩) (ls[j].2.1 + (k + 1)) c) := by
  have hal : Below W.heap.size W (W.alloc X) := (Below.refl _ _).alloc (Nat.le_refl _) X
  have hsz := h.only.size
  have hsa : (W.alloc X).heap.size = W.heap.size + 1 := by simp
  have hgs := hg.size
  have hov : ∀ {a : Option Addr} {xs : List Value}, Ver W a xs → Ver W' a xs := fun q => (q.alloc X).other (h.own.alloc X) (by decide) hg
  have hon : ∀ {v : Value} {n : Nat} {xs : List Value}, W.ownsRow B 3 1 v n xs → W'.ownsRow B 3 1 v n xs := fun q => (q.alloc X).kept hg (owns_apart (q.alloc X) (h.own.alloc X) (by decide))
  refine ⟨?_, ⟨Nat.le_refl _, h.kk.2⟩, by rw [List.length_append, h.len]; rfl, ho, fun i' hi => hov (h.lists i' hi), fun i' hi hl => hon (h.rest i' hi hl), hon h.last, h.lat, ?_⟩
  · exact h.only.trans (T := fun b => vG.ownBlock = some b) ((Only.of_below hal).trans (Only.of_grown (S := fun b => vG.ownBlock = some b) hg (fun b hb => hb)) (fun b hb => .inl hb)) (fun b hb => .inr (h.own.lt b hb).1)
  · intro t u hu i' hi e
    have hul := h.len
    by_cases ht : t < us.length
    · rw [List.getElem?_append_left ht] at hu
      obtain ⟨a, c, h1, h2, h3, h4⟩ := h.vers t u hu i' hi e
      exact ⟨a, c, h1, hov h2, h3, fun ht y hy => ⟨(h4 ht y hy).1, by have := (h4 ht y hy).2; omega⟩⟩
    · have e2 : t < (us ++ [Value.slice (some ⟨g, 0, none⟩) (ls[j].2.1 + (k + 1)) c]).length := (List.getElem?_eq_some_iff.1 hu).1
      have e3 : t = us.length := by simp at e2; omega
      have hkk := h.kk
      have e4 : t % 40 = k := by omega
      have e5 : i' = j := by omega
      rw [List.getElem?_append_right (by omega), e3, Nat.sub_self] at hu
      have e6 := Option.some.inj hu
      subst e6
      subst e5
      rw [e4]
      refine ⟨_, _, rfl, hov (Ver.of_owns h.last), fun y hy => ?_, fun ht2 => by omega⟩
      rcases h.lat with q | ⟨b, q1, q2⟩
      · exact .inl (q.trans (by cases hy; rfl))
      · refine .inr ?_
        cases hy
        have : (Value.slice (some ⟨g, 0, none⟩) (ls[i'].2.1 + (k + 1)) c).ownBlock = some g := rfl
        rw [this] at q1; injection q1 with q1
        show wA.heap.size ≤ g
        omega
end Go.Proofs.Ytbggibdldadpiaa
