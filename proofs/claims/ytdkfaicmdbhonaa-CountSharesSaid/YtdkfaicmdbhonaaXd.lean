/-
  Layer 1: what stands while the document's Shares runs: three lists, the rests, what is left.
-/
import Derived.Test.YtdkfaicmdbhonaaXc
import Derived.Test.YtdkfaicmdbhonaaPk
import Derived.Test.YtdkfaicmdbhonaaTyped
import Derived.Test.YtdkfaicmdbhonaaTk
import Derived.Test.YtdkfaicmdbhonaaEa
namespace Go.Proofs.Ytdkfaicmdbhonaa
open Go.RowKit Go.K Go.ChangeShapes Go.WideShapes Go.ChangeAt Go.Words
set_option linter.unusedVariables false
set_option linter.unusedSimpArgs false
/-- No word of a number. -/
def NW (v : Value) : Prop := ∀ n : Int, v ≠ .int .u32 n
theorem IntAt.awayV {W W' : World} {g : Nat} {z : Int} {B t s n : Nat} {v : Value} {xs : List Value} (h : IntAt W g z) (ho : W.ownsRow B t s v n xs) (ht : t ≠ 42) (hT : CellsT NW W v) (hg : W.grownBy W' v.ownBlock) : IntAt W' g z := by
  obtain ⟨bl, ad, cap, l, hrow, hs, h3⟩ := h
  have hne : v.ownBlock ≠ some g := by
    rcases ho.2 with ⟨h1, _⟩ | ⟨g', cap', cur, rfl, _, hr, _⟩
    · rw [h1]; intro e; cases e
    · intro e
      injection e with e
      subst e
      rw [hrow] at hr
      injection hr with hr
      injection hr with _ hr _
      exact ht hr.symm
  refine ⟨bl, ad, cap, l, row_past hrow hg (fun e => hne e.symm), ?_, h3⟩
  intro hnil
  obtain ⟨b, off, rfl, hc⟩ := hs hnil
  have hl : l ≠ [] := fun e => by subst e; exact hnil rfl
  refine ⟨b, off, rfl, fun i hi => ?_⟩
  have hb : some b ≠ v.ownBlock := by
    intro e
    obtain ⟨cur, t2, hr, hall⟩ := hT b e.symm
    have h1 := hc i hi
    rw [cell_of_row _ _ _ _ _ _ hr] at h1
    have hi2 : i < l.length := by rw [vW_length] at hi; exact hi
    rw [vW_get l i hi2] at h1
    have hm := Array.mem_of_getElem? h1
    exact hall _ (Array.mem_toList_iff.2 hm) _ rfl
  have h1 := hc i hi
  rw [List.getElem?_eq_getElem hi] at h1 ⊢
  have hlt : b < W.heap.size := by
    rcases Nat.lt_or_ge b W.heap.size with h2 | h2
    · exact h2
    · unfold World.cell? at h1
      rw [Array.getElem?_eq_none h2] at h1
      cases h1
  unfold World.cell? at h1 ⊢
  simp only at h1 ⊢
  rw [hg.block b hlt hb]
  exact h1
theorem own_ne_int {W : World} {B g t s n : Nat} {v : Value} {xs : List Value} (h : W.ownsRow B t s v n xs) (hb : IsInt W g) (ht : t ≠ 42) : v.ownBlock ≠ some g := by
  obtain ⟨_, _, _, _, hb⟩ := hb
  rcases h.2 with ⟨h1, _⟩ | ⟨g', cap, cur, rfl, _, hr, _⟩
  · rw [h1]; intro e; cases e
  · intro e
    injection e with e
    subst e
    rw [hb] at hr
    injection hr with hr
    injection hr with _ hr _
    exact ht hr.symm
/-- The rests' places as a list of pointers. -/
def ptrs (G : Nat → Nat) (n : Nat) : List Value := (List.range n).map fun k => .pointer (some ⟨G k, 0, none⟩)
theorem ptrs_len (G : Nat → Nat) (n : Nat) : (ptrs G n).length = n := by unfold ptrs; simp
theorem ptrs_succ (G : Nat → Nat) (n : Nat) : ptrs G (n + 1) = ptrs G n ++ [.pointer (some ⟨G n, 0, none⟩)] := by unfold ptrs; rw [List.range_succ, List.map_append]; rfl
theorem ptrs_congr {G G' : Nat → Nat} {n : Nat} (h : ∀ k, k < n → G k = G' k) : ptrs G n = ptrs G' n := by
  unfold ptrs
  apply List.map_congr_left
  intro k hk
  rw [h k (List.mem_range.1 hk)]
theorem rowQ_succ (c : Nat → Nat) (n : Nat) : rowQ c (n + 1) = rowQ c n ++ [.int .u64 (c n : Int)] := by unfold rowQ; rw [List.range_succ, List.map_append]; rfl
def bools (c : Nat → Bool) (n : Nat) : List Value := (List.range n).map fun k => .bool (c k)
theorem bools_len (c : Nat → Bool) (n : Nat) : (bools c n).length = n := by unfold bools; simp
theorem bools_succ (c : Nat → Bool) (n : Nat) : bools c (n + 1) = bools c n ++ [.bool (c n)] := by unfold bools; rw [List.range_succ, List.map_append]; rfl
/-- The state. -/
structure RI (B : Nat) (tn : Nat) (l : List (BitVec 64)) (gS gl : Nat) (c : Nat → Nat) (h : Nat → Bool) (L : Nat) (n7 n8 n9 nG : Nat) (v7 v8 v9 : Value) (G : Nat → Nat) (V : World) : Prop where
  o7 : V.ownsRow B 24 1 v7 n7 (rowQ c n7)
  o8 : V.ownsRow B 35 1 v8 n8 (ptrs G n8)
  o9 : V.ownsRow B 4 1 v9 n9 (bools h n9)
  t7 : CellsT NW V v7
  t8 : CellsT NW V v8
  t9 : CellsT NW V v9
  gr : ∀ k, k < nG → IntAt V (G k) (rV tn l k : Nat) ∧ B ≤ G k ∧ G k ≠ gl
  left : IntAt V gl (L : Nat)
  sum : IntAt V gS (sumL l : Nat)
  wl : B ≤ gl
  ne : gS ≠ gl
section
variable {B tn : Nat} {l : List (BitVec 64)} {gS gl : Nat} {c : Nat → Nat} {hh : Nat → Bool} {L n7 n8 n9 nG : Nat} {v7 v8 v9 v' : Value} {G : Nat → Nat} {V V' : World}
theorem RI.kept (h : RI B tn l gS gl c hh L n7 n8 n9 nG v7 v8 v9 G V) (hb : Below V.heap.size V V') : RI B tn l gS gl c hh L n7 n8 n9 nG v7 v8 v9 G V' := by
  have hg : ∀ r, V.grownBy V' r := fun r => grown_below hb r
  exact ⟨owns_below (B := 0) h.o7 hb, owns_below (B := 0) h.o8 hb, owns_below (B := 0) h.o9 hb, h.t7.kept (hg none) (by cases v7.ownBlock <;> simp), h.t8.kept (hg none) (by cases v8.ownBlock <;> simp), h.t9.kept (hg none) (by cases v9.ownBlock <;> simp),
    fun k hk => ⟨(h.gr k hk).1.kept hb, (h.gr k hk).2⟩, h.left.kept hb, h.sum.kept hb, h.wl, h.ne⟩
theorem RI.add7 (h : RI B tn l gS gl c hh L n7 n8 n9 nG v7 v8 v9 G V) (ho : V'.ownsRow B 24 1 v' (n7 + 1) (rowQ c n7 ++ [.int .u64 (c n7 : Int)])) (hg : V.grownBy V' v7.ownBlock) (ht : CellsT NW V' v') :
    RI B tn l gS gl c hh L (n7 + 1) n8 n9 nG v' v8 v9 G V' :=
  ⟨by rw [rowQ_succ]; exact ho, h.o8.kept hg (owns_apart h.o8 h.o7 (by decide)), h.o9.kept hg (owns_apart h.o9 h.o7 (by decide)), ht, h.t8.kept hg (owns_apart h.o8 h.o7 (by decide)), h.t9.kept hg (owns_apart h.o9 h.o7 (by decide)),
    fun k hk => ⟨(h.gr k hk).1.awayV h.o7 (by decide) h.t7 hg, (h.gr k hk).2⟩, h.left.awayV h.o7 (by decide) h.t7 hg, h.sum.awayV h.o7 (by decide) h.t7 hg, h.wl, h.ne⟩
theorem RI.add8 (h : RI B tn l gS gl c hh L n7 n8 n9 nG v7 v8 v9 G V) (ho : V'.ownsRow B 35 1 v' (n8 + 1) (ptrs G n8 ++ [.pointer (some ⟨G n8, 0, none⟩)])) (hg : V.grownBy V' v8.ownBlock) (ht : CellsT NW V' v') :
    RI B tn l gS gl c hh L n7 (n8 + 1) n9 nG v7 v' v9 G V' :=
  ⟨h.o7.kept hg (owns_apart h.o7 h.o8 (by decide)), by rw [ptrs_succ]; exact ho, h.o9.kept hg (owns_apart h.o9 h.o8 (by decide)), h.t7.kept hg (owns_apart h.o7 h.o8 (by decide)), ht, h.t9.kept hg (owns_apart h.o9 h.o8 (by decide)),
    fun k hk => ⟨(h.gr k hk).1.awayV h.o8 (by decide) h.t8 hg, (h.gr k hk).2⟩, h.left.awayV h.o8 (by decide) h.t8 hg, h.sum.awayV h.o8 (by decide) h.t8 hg, h.wl, h.ne⟩
theorem RI.add9 (h : RI B tn l gS gl c hh L n7 n8 n9 nG v7 v8 v9 G V) (ho : V'.ownsRow B 4 1 v' (n9 + 1) (bools hh n9 ++ [.bool (hh n9)])) (hg : V.grownBy V' v9.ownBlock) (ht : CellsT NW V' v') :
    RI B tn l gS gl c hh L n7 n8 (n9 + 1) nG v7 v8 v' G V' :=
  ⟨h.o7.kept hg (owns_apart h.o7 h.o9 (by decide)), h.o8.kept hg (owns_apart h.o8 h.o9 (by decide)), by rw [bools_succ]; exact ho, h.t7.kept hg (owns_apart h.o7 h.o9 (by decide)), h.t8.kept hg (owns_apart h.o8 h.o9 (by decide)), ht,
    fun k hk => ⟨(h.gr k hk).1.awayV h.o9 (by decide) h.t9 hg, (h.gr k hk).2⟩, h.left.awayV h.o9 (by decide) h.t9 hg, h.sum.awayV h.o9 (by decide) h.t9 hg, h.wl, h.ne⟩
theorem RI.addG (h : RI B tn l gS gl c hh L n7 n8 n9 nG v7 v8 v9 G V) {g : Nat} (hi : IntAt V g (rV tn l nG : Nat)) (hB : B ≤ g) (hne : g ≠ gl) (h8 : n8 = nG) :
    RI B tn l gS gl c hh L n7 n8 n9 (nG + 1) v7 v8 v9 (fun k => if k = nG then g else G k) V := by
  refine ⟨h.o7, ?_, h.o9, h.t7, h.t8, h.t9, fun k hk => ?_, h.left, h.sum, h.wl, h.ne⟩
  · rw [ptrs_congr (G := fun k => if k = nG then g else G k) (G' := G) (fun k hk => by simp only [if_neg (show k ≠ nG by omega)])]; exact h.o8
  · by_cases e : k = nG
    · simp only [if_pos e]; rw [e]; exact ⟨hi, hB, hne⟩
    · simp only [if_neg e]; exact h.gr k (by omega)
theorem RI.setL (h : RI B tn l gS gl c hh L n7 n8 n9 nG v7 v8 v9 G V) {L' : Nat} (hg : V.grownBy V' (some gl)) (hi : IntAt V' gl (L' : Nat)) : RI B tn l gS gl c hh L' n7 n8 n9 nG v7 v8 v9 G V' :=
  ⟨h.o7.kept hg (.inr (own_ne_int h.o7 h.left.isInt (by decide))), h.o8.kept hg (.inr (own_ne_int h.o8 h.left.isInt (by decide))), h.o9.kept hg (.inr (own_ne_int h.o9 h.left.isInt (by decide))),
    h.t7.kept hg (.inr (own_ne_int h.o7 h.left.isInt (by decide))), h.t8.kept hg (.inr (own_ne_int h.o8 h.left.isInt (by decide))), h.t9.kept hg (.inr (own_ne_int h.o9 h.left.isInt (by decide))),
    fun k hk => ⟨(h.gr k hk).1.away h.left.isInt hg (Ne.symm (h.gr k hk).2.2), (h.gr k hk).2⟩, hi, h.sum.away h.left.isInt hg (Ne.symm h.ne), h.wl, h.ne⟩
/-- One cell of an own list is written. -/
theorem own_set {B t g n cap : Nat} {W : World} {xs : List Value} (h : W.ownsRow B t 1 (.slice (some ⟨g, 0, none⟩) n cap) n xs) (k : Nat) (hk : k < n) (u : Value) :
    (W.setCell ⟨g, k, none⟩ u).ownsRow B t 1 (.slice (some ⟨g, 0, none⟩) n cap) n (xs.set k u) := by
  refine ⟨by rw [List.length_set]; exact h.1, ?_⟩
  rcases h.2 with ⟨hv, _⟩ | ⟨g', cap', cur, hv, hB, hr, h1, h2, h3, h4⟩
  · cases hv
  · injection hv with e1 e2 e3
    injection e1 with e1
    injection e1 with e1
    subst e1 e3
    refine .inr ⟨g, cap, cur.setIfInBounds k u, rfl, hB, heap_setCell_same _ _ _ _ _ _ hr, h1, h2, by rw [Array.size_setIfInBounds]; exact h3, ?_⟩
    rw [Array.toList_setIfInBounds, List.take_set, h4]
theorem CellsT.set {T : Value → Prop} {W : World} {g k n cap : Nat} {u : Value} (h : CellsT T W (.slice (some ⟨g, 0, none⟩) n cap)) (hu : T u) : CellsT T (W.setCell ⟨g, k, none⟩ u) (.slice (some ⟨g, 0, none⟩) n cap) := by
  intro r hr
  have hr : g = r := Option.some.inj hr
  subst hr
  obtain ⟨cur, t, h1, h2⟩ := h g rfl
  refine ⟨_, _, heap_setCell_same _ _ _ _ _ _ h1, fun c hc => ?_⟩
  rw [Array.toList_setIfInBounds] at hc
  rcases List.mem_or_eq_of_mem_set hc with h3 | h3
  · exact h2 c h3
  · rw [h3]; exact hu
theorem rowQ_set' (c : Nat → Nat) (n k v : Nat) (hk : k < n) : (rowQ c n).set k (.int .u64 (v : Int)) = rowQ (upd c k v) n := by
  have h := rowQ_set c n k v hk
  have h2 := congrArg Array.toList h
  rw [Array.toList_setIfInBounds] at h2
  exact h2
theorem bools_set (c : Nat → Bool) (n k : Nat) : (bools c n).set k (.bool true) = bools (fun x => decide (x = k) || c x) n := by
  apply List.ext_getElem?
  intro i
  rw [List.getElem?_set]
  unfold bools
  simp only [List.getElem?_map, List.getElem?_range, List.length_map, List.length_range]
  by_cases e : k = i
  · subst e
    by_cases h : k < n
    · simp [h]
    · simp [h]
  · rw [if_neg e]
    have e2 : decide (i = k) = false := decide_eq_false (fun h => e h.symm)
    by_cases h : i < n
    · simp [h, e2]
    · simp [h]
theorem RI.set7 {g cap : Nat} (h : RI B tn l gS gl c hh L n7 n8 n9 nG (.slice (some ⟨g, 0, none⟩) n7 cap) v8 v9 G V) (k v : Nat) (hk : k < n7) :
    RI B tn l gS gl (upd c k v) hh L n7 n8 n9 nG (.slice (some ⟨g, 0, none⟩) n7 cap) v8 v9 G (V.setCell ⟨g, k, none⟩ (.int .u64 (v : Int))) := by
  have hg : V.grownBy (V.setCell ⟨g, k, none⟩ (.int .u64 (v : Int))) (Value.slice (some ⟨g, 0, none⟩) n7 cap).ownBlock := grown_set (grown_refl V (some g)) k _
  refine ⟨by rw [← rowQ_set' c n7 k v hk]; exact own_set h.o7 k hk _, h.o8.kept hg (owns_apart h.o8 h.o7 (by decide)), h.o9.kept hg (owns_apart h.o9 h.o7 (by decide)), CellsT.set h.t7 (fun n e => by cases e), h.t8.kept hg (owns_apart h.o8 h.o7 (by decide)), h.t9.kept hg (owns_apart h.o9 h.o7 (by decide)),
    fun k hk => ⟨(h.gr k hk).1.awayV h.o7 (by decide) h.t7 hg, (h.gr k hk).2⟩, h.left.awayV h.o7 (by decide) h.t7 hg, h.sum.awayV h.o7 (by decide) h.t7 hg, h.wl, h.ne⟩
theorem RI.set9 {g cap : Nat} (h : RI B tn l gS gl c hh L n7 n8 n9 nG v7 v8 (.slice (some ⟨g, 0, none⟩) n9 cap) G V) (k : Nat) (hk : k < n9) :
    RI B tn l gS gl c (fun x => decide (x = k) || hh x) L n7 n8 n9 nG v7 v8 (.slice (some ⟨g, 0, none⟩) n9 cap) G (V.setCell ⟨g, k, none⟩ (.bool true)) := by
  have hg : V.grownBy (V.setCell ⟨g, k, none⟩ (.bool true)) (Value.slice (some ⟨g, 0, none⟩) n9 cap).ownBlock := grown_set (grown_refl V (some g)) k _
  refine ⟨h.o7.kept hg (owns_apart h.o7 h.o9 (by decide)), h.o8.kept hg (owns_apart h.o8 h.o9 (by decide)), by rw [← bools_set]; exact own_set h.o9 k hk _, h.t7.kept hg (owns_apart h.o7 h.o9 (by decide)), h.t8.kept hg (owns_apart h.o8 h.o9 (by decide)), CellsT.set h.t9 (fun n e => by cases e),
    fun k hk => ⟨(h.gr k hk).1.awayV h.o9 (by decide) h.t9 hg, (h.gr k hk).2⟩, h.left.awayV h.o9 (by decide) h.t9 hg, h.sum.awayV h.o9 (by decide) h.t9 hg, h.wl, h.ne⟩
theorem RI.c_congr {c' : Nat → Nat} {h' : Nat → Bool} (h : RI B tn l gS gl c hh L n7 n8 n9 nG v7 v8 v9 G V) (hc : ∀ k, k < n7 → c k = c' k) (hb : ∀ k, k < n9 → hh k = h' k) : RI B tn l gS gl c' h' L n7 n8 n9 nG v7 v8 v9 G V := by
  refine ⟨?_, h.o8, ?_, h.t7, h.t8, h.t9, h.gr, h.left, h.sum, h.wl, h.ne⟩
  · rw [← rowQ_congr hc]; exact h.o7
  · have : bools h' n9 = bools hh n9 := by
      unfold bools
      apply List.map_congr_left
      intro k hk
      rw [hb k (List.mem_range.1 hk)]
    rw [this]; exact h.o9
end
theorem own_cell {B t g n cap : Nat} {W : World} {xs : List Value} (h : W.ownsRow B t 1 (.slice (some ⟨g, 0, none⟩) n cap) n xs) {k : Nat} {u : Value} (hu : xs[k]? = some u) : W.cell? ⟨g, k, none⟩ = some u := by
  have := h.cells (g := g) rfl k u hu
  rw [add_spot, Nat.zero_add] at this
  exact this
theorem bools_get {c : Nat → Bool} {n k : Nat} (h : k < n) : (bools c n)[k]? = some (.bool (c k)) := by simp [bools, h]
theorem ptrs_get {G : Nat → Nat} {n k : Nat} (h : k < n) : (ptrs G n)[k]? = some (.pointer (some ⟨G k, 0, none⟩)) := by simp [ptrs, h]
theorem rowQ_get {c : Nat → Nat} {n k : Nat} (h : k < n) : (rowQ c n)[k]? = some (.int .u64 (c k : Int)) := by simp [rowQ, h]
/-- How many have none yet, read off the list. -/
def noneYet (g n : Nat) (W : World) : Nat := (List.range n).countP fun k => match W.cell? ⟨g, k, none⟩ with | some (.bool false) => true | _ => false
theorem noneYet_eq {B g n cap : Nat} {W : World} {c : Nat → Bool} (h : W.ownsRow B 4 1 (.slice (some ⟨g, 0, none⟩) n cap) n (bools c n)) : noneYet g n W + (List.range n).countP c = n := by
  have e : noneYet g n W = (List.range n).countP (fun k => !c k) := by
    unfold noneYet
    apply List.countP_congr
    intro k hk
    rw [own_cell h (bools_get (List.mem_range.1 hk))]
    cases c k <;> simp
  have h2 := List.length_eq_countP_add_countP (l := List.range n) c
  rw [List.length_range] at h2
  have e2 : (List.range n).countP (fun k => decide ¬(c k = true)) = (List.range n).countP (fun k => !c k) := by
    apply List.countP_congr
    intro k _
    cases c k <;> simp
  omega
end Go.Proofs.Ytdkfaicmdbhonaa
