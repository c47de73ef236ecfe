/-
  Layer 20: the plain law of the deal.
-/
import Derived.Test.YtiafhgcnjgpeaaaYf
import Derived.Test.YtiafhgcnjgpeaaaZa
import Derived.Test.YtiafhgcnjgpeaaaZc
namespace Go.Proofs.Ytiafhgcnjgpeaaa
open Go.RowKit Go.K
set_option linter.unusedVariables false
set_option linter.unusedSimpArgs false

/-- The entry of the mirror. -/
def dealY (c : Con) : Ent := ⟨c.to, c.want, c.price, 0, none, 0, []⟩
structure Fit (c : Con) (x : Ent) : Prop where
  kind : c.kind = 1
  far : c.to ≠ c.by'
  res : c.reserve = 0
  stp : c.step = 0
  of0 : c.of' = 0
  want : itemP c.want = true
  price : ¬ c.price > maxS
  some' : ¬ (c.want = 0 ∧ c.price = 0)
  bare : bareP x = true
  acc : x.acc = c.by'
  item : itemP x.item = true
  coins : ¬ x.coins > maxS
  any : ¬ (x.item = 0 ∧ x.coins = 0)
  other : ¬ (x.item ≠ 0 ∧ x.item = c.want)
theorem fit_of {c : Con} (h : termsV c = 0) : ∃ x, c.es = [x] ∧ Fit c x := by
  obtain ⟨x, hx⟩ := terms_one h
  refine ⟨x, hx, ?_⟩
  unfold termsV at h
  rw [hx] at h
  by_cases h1 : c.kind = 1 ∧ c.to = c.by'
  · rw [if_pos h1] at h; exact absurd h (by decide)
  rw [if_neg h1] at h
  by_cases h2 : c.kind ≠ 1 ∨ c.reserve ≠ 0 ∨ c.step ≠ 0 ∨ c.of' ≠ 0 ∨ itemP c.want = false ∨ c.price > maxS ∨ (c.want = 0 ∧ c.price = 0)
  · rw [if_pos h2] at h; exact absurd h (by decide)
  rw [if_neg h2] at h
  simp only at h
  by_cases h3 : bareP x = false ∨ x.acc ≠ c.by' ∨ itemP x.item = false ∨ x.coins > maxS ∨ (x.item = 0 ∧ x.coins = 0) ∨ (x.item ≠ 0 ∧ x.item = c.want)
  · rw [if_pos h3] at h; exact absurd h (by decide)
  simp only [not_or, Decidable.not_not, Bool.not_eq_false] at h2 h3
  obtain ⟨a1, a2, a3, a4, a5, a6, a7⟩ := h2
  obtain ⟨b1, b2, b3, b4, b5, b6⟩ := h3
  exact ⟨a1, fun e => h1 ⟨a1, e⟩, a2, a3, a4, a5, a6, a7, b1, b2, b3, b4, b5, b6⟩
theorem terms_of {c : Con} {x : Ent} (hx : c.es = [x]) (f : Fit c x) : termsV c = 0 := by
  unfold termsV
  rw [if_neg (fun h => f.far h.2), if_neg (by
    simp only [not_or, Decidable.not_not, Bool.not_eq_false]
    exact ⟨f.kind, f.res, f.stp, f.of0, f.want, f.price, f.some'⟩), hx]
  simp only
  rw [if_neg (by
    simp only [not_or, Decidable.not_not, Bool.not_eq_false]
    exact ⟨f.bare, f.acc, f.item, f.coins, f.any, f.other⟩)]
theorem deal_join {c : Con} (h : termsV c = 0) : joinV c (dealY c) = 0 := by
  obtain ⟨x, hx, f⟩ := fit_of h
  exact joinV_d h f.far (by simp [dealY, bareP])
/-- What the mirror is, cell by cell. -/
structure MirOf (c : Con) (x : Ent) (m : Con) : Prop where
  num : m.num = c.num
  kind : m.kind = c.kind
  by' : m.by' = c.to
  dl : m.dl = c.dl
  to : m.to = c.by'
  want : m.want = x.item
  price : m.price = x.coins
  res : m.reserve = c.reserve
  stp : m.step = c.step
  of0 : m.of' = c.of'
  es : m.es = [dealY c]
theorem mirOf {c m : Con} {x : Ent} {B : Nat} {W : World} (h : termsV c = 0) (hx : c.es = [x]) (hd : m.d = mirD c) (hm : NewC B W m) : MirOf c x m := by
  unfold mirD at hd
  rw [if_pos h, hx] at hd
  simp only [Con.d, Prod.mk.injEq] at hd
  obtain ⟨⟨h1, h2, h3, h4, h5⟩, ⟨h6, h7, h8, h9, h10⟩, hes⟩ := hd
  refine ⟨h1, h2, h3, h4, h5, h6, h7, h8, h9, h10, ?_⟩
  cases hme : m.es with
  | nil => rw [hme] at hes; cases hes
  | cons y l =>
    rw [hme] at hes
    simp only [List.map_cons, List.cons.injEq, List.map_eq_nil_iff] at hes
    obtain ⟨hy, rfl⟩ := hes
    obtain ⟨e1, e2, e3⟩ := hm.ents y (by rw [hme]; exact List.mem_cons_self ..)
    obtain ⟨ya, yi, yc, yp, yw, yk, ys⟩ := y
    simp only [Ent.d, Prod.mk.injEq] at hy e1 e2 e3
    obtain ⟨k1, k2, k3, k4, k5⟩ := hy
    subst e1 e2 k1 k2 k3 k4 e3
    rfl
theorem mir_fit {c m : Con} {x : Ent} (hx : c.es = [x]) (f : Fit c x) (g : MirOf c x m) : Fit m (dealY c) := by
  refine ⟨g.kind.trans f.kind, fun h => f.far (by rw [g.to, g.by'] at h; exact h.symm), g.res.trans f.res, g.stp.trans f.stp, g.of0.trans f.of0, by rw [g.want]; exact f.item, by rw [g.price]; exact f.coins, by rw [g.want, g.price]; exact f.any,
    by simp [dealY, bareP], by rw [g.by']; rfl, f.want, f.price, f.some', fun h => ?_⟩
  rw [g.want] at h
  exact f.other ⟨fun e => h.1 (h.2.trans e), h.2.symm⟩
theorem mir_terms {c m : Con} {x : Ent} (hx : c.es = [x]) (f : Fit c x) (g : MirOf c x m) : termsV m = 0 := terms_of g.es (mir_fit hx f g)
theorem mir_join {c m : Con} {x : Ent} (hx : c.es = [x]) (f : Fit c x) (g : MirOf c x m) : joinV m x = 0 :=
  joinV_d (mir_terms hx f g) (by rw [f.acc, g.by']; exact fun h => f.far h.symm) (by
    simp only [not_or, Decidable.not_not, Bool.not_eq_false]
    exact ⟨by rw [f.acc, g.to], f.bare, g.want.symm, g.price.symm⟩)
theorem bare_d2 {x : Ent} (h : bareP x = true) : x.price = 0 ∧ x.ws = [] := by
  unfold bareP at h
  simpa using h
theorem mir_back {c m : Con} {x : Ent} (hx : c.es = [x]) (f : Fit c x) (g : MirOf c x m) : mirD m = c.d := by
  unfold mirD
  rw [if_pos (mir_terms hx f g), g.es]
  obtain ⟨b1, b2⟩ := bare_d2 f.bare
  simp only [Con.d, hx, List.map_cons, List.map_nil, Ent.d, dealY, g.num, g.kind, g.by', g.dl, g.to, g.want, g.price, g.res, g.stp, g.of0, f.acc, b1, b2]
theorem deal_one {c : Con} {x : Ent} (h : termsV c = 0) (hx : c.es = [x]) : joinG c (dealY c) = gV x c.to ++ gV (dealY c) c.by' := by
  unfold joinG
  rw [if_pos (deal_join h), hx]
  simp [giveV]
theorem deal_two {c m : Con} {x : Ent} (hx : c.es = [x]) (f : Fit c x) (g : MirOf c x m) : joinG m x = gV (dealY c) c.by' ++ gV x c.to := by
  unfold joinG
  rw [if_pos (mir_join hx f g), g.es, g.to, g.by']
  simp [giveV]
theorem gV_to {e : Ent} {t : Int} {g : Gi} (h : g ∈ gV e t) : g.to = t := by
  unfold gV at h
  by_cases h1 : e.item = 0 <;> by_cases h2 : e.coins = 0 <;> simp [h1, h2] at h
  · subst h; rfl
  · subst h; rfl
  · rcases h with rfl | rfl <;> rfl
/-- Who is told, told anew. -/
def setTo (t : Int) (l : List Gi) : List Gi := l.map fun g => ⟨t, g.item, g.coins⟩
theorem setTo_gV (e : Ent) (s t : Int) : setTo t (gV e s) = gV e t := by
  unfold setTo gV
  by_cases h1 : e.item = 0 <;> by_cases h2 : e.coins = 0 <;> simp [h1, h2]
/-- Eleven cells of one block written: the cells of another stay. -/
theorem grown11 (W : World) (z : Nat) (v0 v1 v2 v3 v4 v5 v6 v7 v8 v9 v10 : Value) : W.grownBy (((((((((((W.setCell ⟨z, 0, none⟩ v0).setCell ⟨z, 1, none⟩ v1).setCell ⟨z, 2, none⟩ v2).setCell ⟨z, 3, none⟩ v3).setCell ⟨z, 4, none⟩ v4).setCell ⟨z, 5, none⟩ v5).setCell ⟨z, 6, none⟩ v6).setCell ⟨z, 7, none⟩ v7).setCell ⟨z, 8, none⟩ v8).setCell ⟨z, 9, none⟩ v9).setCell ⟨z, 10, none⟩ v10) (some z) := (grown_set (grown_set (grown_set (grown_set (grown_set (grown_set (grown_set (grown_set (grown_set (grown_set (grown_set (grown_refl W (some z)) 0 v0) 1 v1) 2 v2) 3 v3) 4 v4) 5 v5) 6 v6) 7 v7) 8 v8) 9 v9) 10 v10)
theorem keep11 {W : World} {z : Nat} {v0 v1 v2 v3 v4 v5 v6 v7 v8 v9 v10 : Value} {b o : Nat} {v : Value} (h : W.cell? ⟨b, o, none⟩ = some v) (hne : b ≠ z) : (((((((((((W.setCell ⟨z, 0, none⟩ v0).setCell ⟨z, 1, none⟩ v1).setCell ⟨z, 2, none⟩ v2).setCell ⟨z, 3, none⟩ v3).setCell ⟨z, 4, none⟩ v4).setCell ⟨z, 5, none⟩ v5).setCell ⟨z, 6, none⟩ v6).setCell ⟨z, 7, none⟩ v7).setCell ⟨z, 8, none⟩ v8).setCell ⟨z, 9, none⟩ v9).setCell ⟨z, 10, none⟩ v10).cell? ⟨b, o, none⟩ = some v :=
  grown_cell (grown11 W z v0 v1 v2 v3 v4 v5 v6 v7 v8 v9 v10) h (fun e => hne e.symm)
theorem set11_row {W : World} {z : Nat} {a0 a1 a2 a3 a4 a5 a6 a7 a8 a9 a10 v0 v1 v2 v3 v4 v5 v6 v7 v8 v9 v10 : Value} {t : TypeId} (h : W.heap[z]? = some (.cells #[a0, a1, a2, a3, a4, a5, a6, a7, a8, a9, a10] t (0, 0))) :
    (((((((((((W.setCell ⟨z, 0, none⟩ v0).setCell ⟨z, 1, none⟩ v1).setCell ⟨z, 2, none⟩ v2).setCell ⟨z, 3, none⟩ v3).setCell ⟨z, 4, none⟩ v4).setCell ⟨z, 5, none⟩ v5).setCell ⟨z, 6, none⟩ v6).setCell ⟨z, 7, none⟩ v7).setCell ⟨z, 8, none⟩ v8).setCell ⟨z, 9, none⟩ v9).setCell ⟨z, 10, none⟩ v10).heap[z]? = some (.cells #[v0, v1, v2, v3, v4, v5, v6, v7, v8, v9, v10] t (0, 0)) := by
  have h0 : (W.setCell ⟨z, 0, none⟩ v0).heap[z]? = some (.cells #[v0, a1, a2, a3, a4, a5, a6, a7, a8, a9, a10] t (0, 0)) := heap_setCell_same W z 0 _ t v0 h
  have h1 : ((W.setCell ⟨z, 0, none⟩ v0).setCell ⟨z, 1, none⟩ v1).heap[z]? = some (.cells #[v0, v1, a2, a3, a4, a5, a6, a7, a8, a9, a10] t (0, 0)) := heap_setCell_same (W.setCell ⟨z, 0, none⟩ v0) z 1 _ t v1 h0
  have h2 : (((W.setCell ⟨z, 0, none⟩ v0).setCell ⟨z, 1, none⟩ v1).setCell ⟨z, 2, none⟩ v2).heap[z]? = some (.cells #[v0, v1, v2, a3, a4, a5, a6, a7, a8, a9, a10] t (0, 0)) := heap_setCell_same ((W.setCell ⟨z, 0, none⟩ v0).setCell ⟨z, 1, none⟩ v1) z 2 _ t v2 h1
  have h3 : ((((W.setCell ⟨z, 0, none⟩ v0).setCell ⟨z, 1, none⟩ v1).setCell ⟨z, 2, none⟩ v2).setCell ⟨z, 3, none⟩ v3).heap[z]? = some (.cells #[v0, v1, v2, v3, a4, a5, a6, a7, a8, a9, a10] t (0, 0)) := heap_setCell_same (((W.setCell ⟨z, 0, none⟩ v0).setCell ⟨z, 1, none⟩ v1).setCell ⟨z, 2, none⟩ v2) z 3 _ t v3 h2
  have h4 : (((((W.setCell ⟨z, 0, none⟩ v0).setCell ⟨z, 1, none⟩ v1).setCell ⟨z, 2, none⟩ v2).setCell ⟨z, 3, none⟩ v3).setCell ⟨z, 4, none⟩ v4).heap[z]? = some (.cells #[v0, v1, v2, v3, v4, a5, a6, a7, a8, a9, a10] t (0, 0)) := heap_setCell_same ((((W.setCell ⟨z, 0, none⟩ v0).setCell ⟨z, 1, none⟩ v1).setCell ⟨z, 2, none⟩ v2).setCell ⟨z, 3, none⟩ v3) z 4 _ t v4 h3
  have h5 : ((((((W.setCell ⟨z, 0, none⟩ v0).setCell ⟨z, 1, none⟩ v1).setCell ⟨z, 2, none⟩ v2).setCell ⟨z, 3, none⟩ v3).setCell ⟨z, 4, none⟩ v4).setCell ⟨z, 5, none⟩ v5).heap[z]? = some (.cells #[v0, v1, v2, v3, v4, v5, a6, a7, a8, a9, a10] t (0, 0)) := heap_setCell_same (((((W.setCell ⟨z, 0, none⟩ v0).setCell ⟨z, 1, none⟩ v1).setCell ⟨z, 2, none⟩ v2).setCell ⟨z, 3, none⟩ v3).setCell ⟨z, 4, none⟩ v4) z 5 _ t v5 h4
  have h6 : (((((((W.setCell ⟨z, 0, none⟩ v0).setCell ⟨z, 1, none⟩ v1).setCell ⟨z, 2, none⟩ v2).setCell ⟨z, 3, none⟩ v3).setCell ⟨z, 4, none⟩ v4).setCell ⟨z, 5, none⟩ v5).setCell ⟨z, 6, none⟩ v6).heap[z]? = some (.cells #[v0, v1, v2, v3, v4, v5, v6, a7, a8, a9, a10] t (0, 0)) := heap_setCell_same ((((((W.setCell ⟨z, 0, none⟩ v0).setCell ⟨z, 1, none⟩ v1).setCell ⟨z, 2, none⟩ v2).setCell ⟨z, 3, none⟩ v3).setCell ⟨z, 4, none⟩ v4).setCell ⟨z, 5, none⟩ v5) z 6 _ t v6 h5
  have h7 : ((((((((W.setCell ⟨z, 0, none⟩ v0).setCell ⟨z, 1, none⟩ v1).setCell ⟨z, 2, none⟩ v2).setCell ⟨z, 3, none⟩ v3).setCell ⟨z, 4, none⟩ v4).setCell ⟨z, 5, none⟩ v5).setCell ⟨z, 6, none⟩ v6).setCell ⟨z, 7, none⟩ v7).heap[z]? = some (.cells #[v0, v1, v2, v3, v4, v5, v6, v7, a8, a9, a10] t (0, 0)) := heap_setCell_same (((((((W.setCell ⟨z, 0, none⟩ v0).setCell ⟨z, 1, none⟩ v1).setCell ⟨z, 2, none⟩ v2).setCell ⟨z, 3, none⟩ v3).setCell ⟨z, 4, none⟩ v4).setCell ⟨z, 5, none⟩ v5).setCell ⟨z, 6, none⟩ v6) z 7 _ t v7 h6
  have h8 : (((((((((W.setCell ⟨z, 0, none⟩ v0).setCell ⟨z, 1, none⟩ v1).setCell ⟨z, 2, none⟩ v2).setCell ⟨z, 3, none⟩ v3).setCell ⟨z, 4, none⟩ v4).setCell ⟨z, 5, none⟩ v5).setCell ⟨z, 6, none⟩ v6).setCell ⟨z, 7, none⟩ v7).setCell ⟨z, 8, none⟩ v8).heap[z]? = some (.cells #[v0, v1, v2, v3, v4, v5, v6, v7, v8, a9, a10] t (0, 0)) := heap_setCell_same ((((((((W.setCell ⟨z, 0, none⟩ v0).setCell ⟨z, 1, none⟩ v1).setCell ⟨z, 2, none⟩ v2).setCell ⟨z, 3, none⟩ v3).setCell ⟨z, 4, none⟩ v4).setCell ⟨z, 5, none⟩ v5).setCell ⟨z, 6, none⟩ v6).setCell ⟨z, 7, none⟩ v7) z 8 _ t v8 h7
  have h9 : ((((((((((W.setCell ⟨z, 0, none⟩ v0).setCell ⟨z, 1, none⟩ v1).setCell ⟨z, 2, none⟩ v2).setCell ⟨z, 3, none⟩ v3).setCell ⟨z, 4, none⟩ v4).setCell ⟨z, 5, none⟩ v5).setCell ⟨z, 6, none⟩ v6).setCell ⟨z, 7, none⟩ v7).setCell ⟨z, 8, none⟩ v8).setCell ⟨z, 9, none⟩ v9).heap[z]? = some (.cells #[v0, v1, v2, v3, v4, v5, v6, v7, v8, v9, a10] t (0, 0)) := heap_setCell_same (((((((((W.setCell ⟨z, 0, none⟩ v0).setCell ⟨z, 1, none⟩ v1).setCell ⟨z, 2, none⟩ v2).setCell ⟨z, 3, none⟩ v3).setCell ⟨z, 4, none⟩ v4).setCell ⟨z, 5, none⟩ v5).setCell ⟨z, 6, none⟩ v6).setCell ⟨z, 7, none⟩ v7).setCell ⟨z, 8, none⟩ v8) z 9 _ t v9 h8
  have h10 : (((((((((((W.setCell ⟨z, 0, none⟩ v0).setCell ⟨z, 1, none⟩ v1).setCell ⟨z, 2, none⟩ v2).setCell ⟨z, 3, none⟩ v3).setCell ⟨z, 4, none⟩ v4).setCell ⟨z, 5, none⟩ v5).setCell ⟨z, 6, none⟩ v6).setCell ⟨z, 7, none⟩ v7).setCell ⟨z, 8, none⟩ v8).setCell ⟨z, 9, none⟩ v9).setCell ⟨z, 10, none⟩ v10).heap[z]? = some (.cells #[v0, v1, v2, v3, v4, v5, v6, v7, v8, v9, v10] t (0, 0)) := heap_setCell_same ((((((((((W.setCell ⟨z, 0, none⟩ v0).setCell ⟨z, 1, none⟩ v1).setCell ⟨z, 2, none⟩ v2).setCell ⟨z, 3, none⟩ v3).setCell ⟨z, 4, none⟩ v4).setCell ⟨z, 5, none⟩ v5).setCell ⟨z, 6, none⟩ v6).setCell ⟨z, 7, none⟩ v7).setCell ⟨z, 8, none⟩ v8).setCell ⟨z, 9, none⟩ v9) z 10 _ t v10 h9
  exact h10
/-- What a region leaves that joins and lays the contract into a variable. -/
def DealEnd (D : (Int × Int × Int × Int × Int) × (Int × Int × Int × Int × Int) × List (Int × Int × Int × Int × List Int)) (G : List Gi) (w6 : World) (s13 s14 s15 s16 : Value) (W : World) : Prop := ∃ (q : Nat) (d : Con) (la : Option Addr) (lc : Nat),
  s13 = .pointer (some ⟨q, 0, none⟩) ∧ s14 = .slice la G.length G.length ∧ s15 = .bool true ∧ s16 = .int .i64 0 ∧ Box W q d ∧ d.d = D ∧ Bare d ∧ W.ownsRow w6.heap.size 56 3 (.slice la G.length lc) G.length (gFlat G) ∧ (la = none → G.length = 0 ∧ lc = 0) ∧ Below w6.heap.size w6 W ∧ w6.heap.size ≤ q
theorem dealEndA {D : (Int × Int × Int × Int × Int) × (Int × Int × Int × Int × Int) × List (Int × Int × Int × Int × List Int)} {G : List Gi} {w6 w7 : World} {d : Con} {la : Option Addr} {lc : Nat} (hd : d.d = D) (hb : Bare d)
    (hl : w7.ownsRow w6.drew.heap.size 56 3 (.slice la G.length lc) G.length (gFlat G)) (hn : la = none → G.length = 0 ∧ lc = 0) (h7 : Below w6.drew.heap.size w6.drew w7) :
    DealEnd D G w6 (.pointer (some ⟨w7.heap.size, 0, none⟩)) (.slice la G.length G.length) (.bool true) (.int .i64 0) (w7.alloc (.cells #[.int .i64 d.num, .int .i64 d.kind, .int .i64 d.by', .int .i64 d.dl, .int .i64 d.to, .int .i64 d.want, .int .u64 d.price, .int .u64 d.reserve, .int .u64 d.step, .int .i64 d.of', .slice d.ea d.es.length d.ec] 25)) := by
  have h8 : Below w6.heap.size w6 w7 := (below_drawn (Below.refl w6.heap.size w6) (w6.drawn + 1)).trans h7
  exact ⟨_, d, la, lc, rfl, rfl, rfl, rfl, alloc_at rfl, hd, hb, hl.alloc _, hn, h8.alloc h8.size _, h8.size⟩
theorem dealEndB {D : (Int × Int × Int × Int × Int) × (Int × Int × Int × Int × Int) × List (Int × Int × Int × Int × List Int)} {G : List Gi} {w6 w7 : World} {d : Con} {la : Option Addr} {lc : Nat} (hd : d.d = D) (hb : Bare d)
    (hl : w7.ownsRow (World.drew (World.alloc w6 (.cells #[.int .i64 0, .int .i64 0, .int .i64 0, .int .i64 0, .int .i64 0, .int .i64 0, .int .u64 0, .int .u64 0, .int .u64 0, .int .i64 0, .slice none 0 0] 25))).heap.size 56 3 (.slice la G.length lc) G.length (gFlat G)) (hn : la = none → G.length = 0 ∧ lc = 0)
    (h7 : Below (World.drew (World.alloc w6 (.cells #[.int .i64 0, .int .i64 0, .int .i64 0, .int .i64 0, .int .i64 0, .int .i64 0, .int .u64 0, .int .u64 0, .int .u64 0, .int .i64 0, .slice none 0 0] 25))).heap.size (World.drew (World.alloc w6 (.cells #[.int .i64 0, .int .i64 0, .int .i64 0, .int .i64 0, .int .i64 0, .int .i64 0, .int .u64 0, .int .u64 0, .int .u64 0, .int .i64 0, .slice none 0 0] 25))) w7) :
    DealEnd D G w6 (.pointer (some ⟨w6.heap.size, 0, none⟩)) (.slice la G.length G.length) (.bool true) (.int .i64 0) (((((((((((w7.setCell ⟨w6.heap.size, 0, none⟩ (.int .i64 d.num)).setCell ⟨w6.heap.size, 1, none⟩ (.int .i64 d.kind)).setCell ⟨w6.heap.size, 2, none⟩ (.int .i64 d.by')).setCell ⟨w6.heap.size, 3, none⟩ (.int .i64 d.dl)).setCell ⟨w6.heap.size, 4, none⟩ (.int .i64 d.to)).setCell ⟨w6.heap.size, 5, none⟩ (.int .i64 d.want)).setCell ⟨w6.heap.size, 6, none⟩ (.int .u64 d.price)).setCell ⟨w6.heap.size, 7, none⟩ (.int .u64 d.reserve)).setCell ⟨w6.heap.size, 8, none⟩ (.int .u64 d.step)).setCell ⟨w6.heap.size, 9, none⟩ (.int .i64 d.of')).setCell ⟨w6.heap.size, 10, none⟩ (.slice d.ea d.es.length d.ec)) := by
  have hs : (World.drew (World.alloc w6 (.cells #[.int .i64 0, .int .i64 0, .int .i64 0, .int .i64 0, .int .i64 0, .int .i64 0, .int .u64 0, .int .u64 0, .int .u64 0, .int .i64 0, .slice none 0 0] 25))).heap.size = w6.heap.size + 1 := World.size_alloc _ _
  have hz : w7.heap[w6.heap.size]? = some (.cells #[.int .i64 0, .int .i64 0, .int .i64 0, .int .i64 0, .int .i64 0, .int .i64 0, .int .u64 0, .int .u64 0, .int .u64 0, .int .i64 0, .slice none 0 0] 25) := row_kept (show (World.drew (World.alloc w6 (.cells #[.int .i64 0, .int .i64 0, .int .i64 0, .int .i64 0, .int .i64 0, .int .i64 0, .int .u64 0, .int .u64 0, .int .u64 0, .int .i64 0, .slice none 0 0] 25))).heap[w6.heap.size]? = _ from alloc_at rfl) h7
  have h8 : Below w6.heap.size w6 w7 := (below_drawn ((Below.refl w6.heap.size w6).alloc (Nat.le_refl _) _) _).trans (h7.mono (by omega))
  have hg := grown11 w7 w6.heap.size (.int .i64 d.num) (.int .i64 d.kind) (.int .i64 d.by') (.int .i64 d.dl) (.int .i64 d.to) (.int .i64 d.want) (.int .u64 d.price) (.int .u64 d.reserve) (.int .u64 d.step) (.int .i64 d.of') (.slice d.ea d.es.length d.ec)
  refine ⟨_, d, la, lc, rfl, rfl, rfl, rfl, set11_row hz, hd, hb, ?_, hn, below_grown h8 hg h8.size (Nat.le_refl _), Nat.le_refl _⟩
  refine owns_base ((Only.of_grown (S := (· = w6.heap.size)) hg (fun k hk => by injection hk with e; exact e.symm)).owns hl (fun k hk => ?_)) (by omega)
  have := (hl.lt k hk).1
  omega
/-- Is the entry what the contract asks for? -/
theorem taken_of {c : Con} {e : Ent} (h : termsV c = 0) : joinV c e = 0 ↔ (e.acc = c.to ∧ e.item = c.want ∧ e.coins = c.price ∧ e.price = 0 ∧ e.ws = []) := by
  obtain ⟨x, hx, f⟩ := fit_of h
  constructor
  · intro hj
    obtain ⟨_, h1, h2, h3, h4, h5⟩ := joinV_0 hj
    obtain ⟨b1, b2⟩ := bare_d2 h3
    exact ⟨h2, h4, h5, b1, b2⟩
  · rintro ⟨h1, h2, h3, h4, h5⟩
    refine joinV_d h (by rw [h1]; exact f.far) ?_
    simp only [not_or, Decidable.not_not, Bool.not_eq_false]
    exact ⟨h1, by simp [bareP, h4, h5], h2, h3⟩
end Go.Proofs.Ytiafhgcnjgpeaaa
