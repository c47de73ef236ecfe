/-
  Layer 18: for the rank's law: what has been seen, three rows of the call's own.
-/
import Derived.Test.YthadfopkacbnlaaVb
import Derived.Laws.MakeOwn
namespace Go.Proofs.Ythadfopkacbnlaa
open Go.RowKit Go.K
set_option linter.unusedVariables false
set_option linter.unusedSimpArgs false
theorem infoB : (Try.prog.info? 4).map (fun i => (i.zero, i.size, i.bytes)) = some (some (.bool false), 1, 1) := by kernel_rfl
def z16 : Array Value := #[.bool false, .bool false, .bool false, .bool false, .bool false, .bool false, .bool false, .bool false, .bool false, .bool false, .bool false, .bool false, .bool false, .bool false, .bool false, .bool false]
theorem make28 (w : World) : (Instr.makeSlice 28 (.int .i64 16) (.int .i64 16)).run Try.prog w = .ok (.slice (some ⟨w.heap.size, 0, none⟩) 16 16) (w.alloc (.cells z16 4)) := by
  obtain ⟨i, hi, hz, hs, hb⟩ := info_parts infoB
  have := run_make (P := Try.prog) w 28 4 i (.bool false) Try.underlying28 hi hz .i64 .i64 16 16 (by omega) (by omega) (by rw [hb]; omega) (by omega)
  rw [hs] at this
  have hm : madeCells (Value.bool false).cells (Int.toNat 16 * 1) = z16 := by
    have hz : z16 = Array.replicate 16 (Value.bool false) := rfl
    rw [hz]
    apply Array.ext
    · simp [madeCells]
    · intro i h1 h2
      simp [madeCells, Value.cells, Nat.mod_one]
  rw [hm] at this
  exact this
def seenF (R : List Nat) (i k : Nat) : Option Value := if k < 16 then some (.bool (decide (k ∈ R.take i))) else none
theorem seen_zero (W : World) (m : Nat) (h : m = W.heap.size) (R : List Nat) : Cl (W.alloc (.cells z16 4)) m 4 16 (seenF R 0) := by
  refine ⟨_, alloc_at h, rfl, fun k v e => ?_⟩
  unfold seenF at e
  split at e
  · rename_i h16
    simp at e
    subst e
    have : ∀ k, k < 16 → z16[k]? = some (.bool false) := by
      intro k hk
      have h8 : k = 0 ∨ k = 1 ∨ k = 2 ∨ k = 3 ∨ k = 4 ∨ k = 5 ∨ k = 6 ∨ k = 7 ∨ k = 8 ∨ k = 9 ∨ k = 10 ∨ k = 11 ∨ k = 12 ∨ k = 13 ∨ k = 14 ∨ k = 15 := by omega
      rcases h8 with rfl | rfl | rfl | rfl | rfl | rfl | rfl | rfl | rfl | rfl | rfl | rfl | rfl | rfl | rfl | rfl <;> rfl
    exact this k h16
  · cases e
theorem seen_step {W : World} {m : Nat} {R : List Nat} {i : Nat} (h : Cl W m 4 16 (seenF R i)) (hi : i < R.length) (hr : R[i] < 16) : Cl (W.setCell ⟨m, R[i], none⟩ (.bool true)) m 4 16 (seenF R (i + 1)) := by
  refine (h.setC hr (.bool true)).mono fun k v e => ?_
  unfold seenF at e
  split at e
  · rename_i h16
    rw [List.take_succ_eq_append_getElem hi] at e
    show (if k = R[i] then some (Value.bool true) else seenF R i k) = some v
    by_cases c : k = R[i]
    · rw [if_pos c]
      have hm : k ∈ R.take i ++ [R[i]] := List.mem_append_right _ (List.mem_singleton.2 c)
      rw [decide_eq_true hm] at e
      exact e
    · rw [if_neg c]
      unfold seenF
      rw [if_pos h16, ← e]
      congr 2
      have : k ∈ R.take i ++ [R[i]] ↔ k ∈ R.take i := by rw [List.mem_append, List.mem_singleton]; exact ⟨fun h => h.resolve_right c, .inl⟩
      rw [decide_eq_decide]; exact this.symm
  · cases e
theorem seen_cell {W : World} {m : Nat} {R : List Nat} {i k : Nat} (h : Cl W m 4 16 (seenF R i)) (hk : k < 16) : W.cell? ⟨m, k, none⟩ = some (.bool (decide (k ∈ R.take i))) := Cl.cell h (by unfold seenF; rw [if_pos hk])
theorem Rank.mem {L : Nat → Ln} {R : List Nat} (h : Rank L R) (k : Nat) : k ∈ R ↔ k < 16 ∧ 0 < (L k).deals := by rw [h.perm.mem_iff, dealt_mem]
theorem Rank.lt {L : Nat → Ln} {R : List Nat} (h : Rank L R) {i : Nat} (hi : i < R.length) : R[i] < 16 := ((h.mem _).1 (List.getElem_mem hi)).1
theorem Rank.new {L : Nat → Ln} {R : List Nat} (h : Rank L R) {i : Nat} (hi : i < R.length) : ¬ R[i] ∈ R.take i := by
  intro hm
  obtain ⟨j, hj, e⟩ := List.getElem_of_mem hm
  rw [List.length_take] at hj
  rw [List.getElem_take] at e
  have := List.pairwise_iff_getElem.1 h.sorted j i (by omega) hi (by omega)
  rw [e] at this
  exact TL_irr L _ this
theorem Rank.ord {L : Nat → Ln} {R : List Nat} (h : Rank L R) {i : Nat} (hi : i + 1 < R.length) : n03.ordV (L R[i]).avg (L R[i + 1]).avg = 1 ∨ n03.ordV (L R[i]).avg (L R[i + 1]).avg = 0 ∧ R[i] < R[i + 1] := by
  have := List.pairwise_iff_getElem.1 h.sorted i (i + 1) (by omega) hi (by omega)
  unfold TL pL at this
  unfold n03.ordV
  rcases this with h1 | ⟨h1, h2⟩
  · left; rw [if_neg (by omega), if_pos h1]
  · right; rw [if_neg (by omega), if_neg (by omega)]; exact ⟨rfl, h2⟩
theorem owns_sl2 {w : World} {B : Nat} {e : TypeId} {s n : Nat} {v : Value} {xs : List Value} (h : w.ownsRow B e s v n xs) : ∃ a c, v = .slice a n c ∧ Sl w a xs ∧ (a = none → n = 0 ∧ c = 0) ∧ (∀ b, a = some b → ∃ g, b = ⟨g, 0, none⟩ ∧ g < w.heap.size ∧ n ≤ c ∧ c ≤ maxLen) := by
  rcases h.2 with ⟨rfl, h0⟩ | ⟨g, cap, cur, rfl, hb, hg, hn, hm, hs, ht⟩
  · refine ⟨none, 0, by rw [h0], fun hne => absurd ?_ hne, fun _ => ⟨h0, rfl⟩, (fun b hb => by cases hb)⟩
    have := h.1
    rw [h0, Nat.zero_mul] at this
    exact List.length_eq_zero_iff.1 this
  · refine ⟨some ⟨g, 0, none⟩, cap, rfl, fun _ => ⟨g, 0, rfl, fun i hi => ?_⟩, (fun h => by cases h), (fun b hb => by cases hb; exact ⟨g, rfl, lt_row hg, hn, hm⟩)⟩
    rw [cell_of_row _ _ _ _ _ _ hg, ← ht, Nat.zero_add]
    rw [List.getElem?_take_of_lt (by rw [h.1] at hi; exact hi)]
    simp
/-- One cell of a row of the call's own is written. -/
theorem own_set {W : World} {B g c n j : Nat} {e : TypeId} {xs : List Value} (h : W.ownsRow B e 1 (.slice (some ⟨g, 0, none⟩) n c) n xs) (hj : j < n) (v : Value) : (W.setCell ⟨g, j, none⟩ v).ownsRow B e 1 (.slice (some ⟨g, 0, none⟩) n c) n (xs.set j v) := by
  refine ⟨by rw [List.length_set]; exact h.1, ?_⟩
  rcases h.2 with ⟨h1, h0⟩ | ⟨g', cap', cur, hv, hbg, hg, hnc, hcm, hcs, htake⟩
  · cases h1
  · injection hv with h1 h2 h3
    injection h1 with h1
    injection h1 with h1
    subst h1 h3
    refine .inr ⟨g, c, cur.setIfInBounds j v, rfl, hbg, heap_setCell_same _ _ _ _ _ v hg, hnc, hcm, by rw [Array.size_setIfInBounds]; exact hcs, ?_⟩
    rw [Array.toList_setIfInBounds, List.take_set, htake]
theorem own_other {W : World} {B g j n s : Nat} {e : TypeId} {u v : Value} {xs : List Value} (h : W.ownsRow B e s u n xs) (hne : u.ownBlock ≠ some g) : (W.setCell ⟨g, j, none⟩ v).ownsRow B e s u n xs := by
  refine h.kept (grown_set (grown_below (Below.refl _ _) _) j v) ?_
  cases hu : u.ownBlock with
  | none => exact .inl rfl
  | some b => exact .inr (fun e => hne (hu.trans e))
/-- Three rows of the call's own, in blocks apart. -/
structure Three (V w : World) (B : Nat) (v4 : Value) (n4 : Nat) (x4 : List Value) (v5 : Value) (n5 : Nat) (x5 : List Value) (v6 : Value) (n6 : Nat) (x6 : List Value) : Prop where
  r4 : V.ownsRow B 3 1 v4 n4 x4
  r5 : V.ownsRow B 3 1 v5 n5 x5
  r6 : V.ownsRow B 3 1 v6 n6 x6
  d45 : Dis v4 v5
  d46 : Dis v4 v6
  d56 : Dis v5 v6
  bel : Below B w V
section
variable {V V' w : World} {B n4 n5 n6 : Nat} {v4 v5 v6 : Value} {x4 x5 x6 : List Value}
theorem Three.below (h : Three V w B v4 n4 x4 v5 n5 x5 v6 n6 x6) (hw : B = w.heap.size) (hb : Below V.heap.size V V') : Three V' w B v4 n4 x4 v5 n5 x5 v6 n6 x6 :=
  ⟨owns_below (B := 0) h.r4 hb, owns_below (B := 0) h.r5 hb, owns_below (B := 0) h.r6 hb, h.d45, h.d46, h.d56, h.bel.trans (hb.mono (by rw [hw]; exact h.bel.size))⟩
theorem Three.swap (h : Three V w B v4 n4 x4 v5 n5 x5 v6 n6 x6) : Three V w B v5 n5 x5 v4 n4 x4 v6 n6 x6 := ⟨h.r5, h.r4, h.r6, h.d45.swap, h.d56, h.d46, h.bel⟩
theorem dis_append' {W W' : World} {B' : Nat} {e' : TypeId} {s' n' N : Nat} {v v' u : Value} {ys : List Value} (ho : W.ownsRow B' e' s' u n' ys) (hd : Dis v u) (hg : W.grownBy W' v.ownBlock) (hN : N = W.heap.size)
    (hl : (v'.ownBlock = v.ownBlock ∧ ¬ v.ownBlock = none) ∨ (v'.ownBlock = some N ∧ Below N W W')) : W'.ownsRow B' e' s' u n' ys ∧ Dis v' u :=
  dis_append (B := 0) (e := 0) (s := 0) (n := 0) ho hd hg (by subst hN; exact hl)
/-- One row grows. -/
theorem Three.app {v' : Value} {N : Nat} {y : List Value} {n' : Nat} (h : Three V w B v4 n4 x4 v5 n5 x5 v6 n6 x6) (hw : B = w.heap.size) (ho : V'.ownsRow B 3 1 v' n' y) (hg : V.grownBy V' v4.ownBlock) (hN : N = V.heap.size)
    (hl : (v'.ownBlock = v4.ownBlock ∧ ¬ v4.ownBlock = none) ∨ (v'.ownBlock = some N ∧ Below N V V')) : Three V' w B v' n' y v5 n5 x5 v6 n6 x6 := by
  obtain ⟨a1, a2⟩ := dis_append' h.r5 h.d45 hg hN hl
  obtain ⟨b1, b2⟩ := dis_append' h.r6 h.d46 hg hN hl
  exact ⟨ho, a1, b1, a2, b2, h.d56, h.bel.grown hg (by rw [hw]; exact h.bel.size) (fun j hj => (h.r4.lt j hj).1)⟩
theorem Three.set {g c j : Nat} {v : Value} (h : Three V w B (.slice (some ⟨g, 0, none⟩) n4 c) n4 x4 v5 n5 x5 v6 n6 x6) (hj : j < n4) : Three (V.setCell ⟨g, j, none⟩ v) w B (.slice (some ⟨g, 0, none⟩) n4 c) n4 (x4.set j v) v5 n5 x5 v6 n6 x6 :=
  ⟨own_set h.r4 hj v, own_other h.r5 (h.d45 g rfl), own_other h.r6 (h.d46 g rfl), h.d45, h.d46, h.d56, h.bel.setCell (h.r4.lt g rfl).1 _⟩
end
theorem run_slice_hi {P : Program} {t e : TypeId} {size : Nat} (h : P.underlying t = some (.slice e)) (hz : (P.info? e).map (·.size) = some size) (a : Option Addr) (ha : ∃ b, a = some ⟨b, 0, none⟩) (len cap : Nat) (k : IntKind) (hi : Int) (n : Nat)
    (h1 : hi = n) (h2 : n ≤ cap) (w : World) :
    (Instr.slice t (.slice a len cap) none (some (.int k hi)) none).run P w = .ok (.slice a n cap) w := by
  obtain ⟨i, hi', hs⟩ := Option.map_eq_some_iff.1 hz
  obtain ⟨b, rfl⟩ := ha
  subst h1 hs
  have c1 : (0 : Int) ≤ (n : Int) ∧ (n : Int) ≤ (cap : Int) := by omega
  have c2 : (0 : Int) ≤ (n : Int) := by omega
  simp only [Instr.slice, Instr.sliceBounds, Instr.sliceBound, asIntOf, run_underlying h, sizeOf, typeInfo, Sem.run_bind, Sem.run_pure, Result.andThen_ok, if_pos c1, Int.toNat_natCast, Option.isSome]
  by_cases hc : cap = 0 <;> simp [hi', hc, Addr.add]
def tl7 (z : Int) (i : Nat) : List Value := (List.range i).map fun (j : Nat) => Value.int .i64 (z + (j : Int))
theorem tl7_succ (z : Int) (i : Nat) : tl7 z (i + 1) = tl7 z i ++ [.int .i64 (z + (i : Int))] := by unfold tl7; rw [List.range_succ, List.map_append]; rfl
theorem tl7_len (z : Int) (i : Nat) : (tl7 z i).length = i := by unfold tl7; simp
theorem tl7_get (z : Int) (i j : Nat) (h : j < i) : (tl7 z i)[j]? = some (.int .i64 (z + (j : Int))) := by unfold tl7; simp [h]
end Go.Proofs.Ythadfopkacbnlaa
