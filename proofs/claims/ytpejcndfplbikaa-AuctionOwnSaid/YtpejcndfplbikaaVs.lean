/-
  Layer 21: what an entry is answered that joins; what the walk of Join keeps.
-/
import Derived.Test.YtpejcndfplbikaaVp
import Derived.Test.YtpejcndfplbikaaVm
import Derived.Test.YtpejcndfplbikaaFr
namespace Go.Proofs.Ytpejcndfplbikaa
open Go.RowKit Go.K
set_option linter.unusedVariables false
set_option linter.unusedSimpArgs false
def hasD (l : List DE) (a : Int) : Bool := l.any fun x => decide (x.1 = a)
theorem hasA_d (es : List Ent) (a : Int) : hasA es a = hasD (es.map Ent.d) a := by
  unfold hasA hasD
  rw [List.any_map]; rfl
/-- What an entry is answered that joins. -/
def joinV (k b r s : Int) (l : List DE) (e : DE) : Int :=
  if e.1 = b then 234 else if (k = 2 ∨ k = 3) ∧ l.length ≠ 0 ∧ e.2.1 = 0 ∧ e.2.2.2.1 = 0 ∧ e.2.2.2.2.length = 0 then
    (if lowV k r s l e.2.2.1 = true then 210 else if k = 3 ∧ hasD (l.drop 1) e.1 = true then 236 else if k = 3 ∧ 16 ≤ l.length then 232 else 0) else 200
/-- How many entries stay. -/
def stays (k : Int) (l : List DE) : Nat := if k = 2 ∧ 1 < l.length then l.length - 1 else l.length
def joinG (k : Int) (l : List DE) : List Gi := if k = 2 ∧ 1 < l.length then giveL (dA l (l.length - 1)) (dI l (l.length - 1)) (dC l (l.length - 1)) else []
def conZ : Con := ⟨0, 0, 0, 0, 0, 0, 0, 0, 0, 0, none, 0, []⟩
def joinD (c : Con) (e : Ent) : (Int × Int × Int × Int × Int) × (Int × Int × Int × Int × Int) × List DE := ((c.num, c.kind, c.by', c.dl, c.to'), (c.want, c.price, c.reserve, c.step, c.of'), (c.es.map Ent.d).take (stays c.kind (c.es.map Ent.d)) ++ [e.d])
def Con.joinV' (c : Con) (e : Ent) : Int := joinV c.kind c.by' c.reserve c.step (c.es.map Ent.d) e.d
def JoinAns (w : World) (c : Con) (e : Ent) (r : Ending) (w' : World) : Prop :=
  ∃ (d : Con) (ad : Option Addr) (cap : Nat) (gs : List Gi), r = .returned (.tuple #[d.agg, .slice ad gs.length cap, .bool false, .int .i64 (c.joinV' e)]) ∧ Below w.heap.size w w' ∧ NewC w.heap.size w' d ∧
    w'.ownsRow w.heap.size 64 3 (.slice ad gs.length cap) gs.length (gFlat gs) ∧ gs = (if c.joinV' e = 0 then joinG c.kind (c.es.map Ent.d) else []) ∧ d.d = if c.joinV' e = 0 then joinD c e else conZ.d
theorem conZ_new (B : Nat) (W : World) : NewC B W conZ := ⟨World.ownsRow_nil _ _ _ _, fun e h => absurd h (by simp [conZ]), Nat.zero_le _⟩
theorem joinA_no {w w' : World} {c : Con} {e : Ent} {r : Ending} (v : Int) (hv : c.joinV' e = v) (h0 : v ≠ 0) (hr : r = .returned (.tuple #[conZ.agg, .slice none 0 0, .bool false, .int .i64 v])) (hb : Below w.heap.size w w') : JoinAns w c e r w' :=
  ⟨conZ, none, 0, [], by rw [hv]; exact hr, hb, conZ_new _ _, World.ownsRow_nil _ _ _ _, by rw [hv, if_neg h0], by rw [hv, if_neg h0]⟩
/-- What the walk of Join keeps: the hall with its new entries, the entry and the answer in their boxes, the gifts. -/
structure JI (w : World) (g B : Nat) (rw' : Value → Array Value) (ty : TypeId) (cr er zr : Array Value) (W : World) (ev gv : Value) (ls : List Ent) (gs : List Gi) : Prop where
  bel : Below w.heap.size w W
  rg : W.heap[g]? = some (.cells (rw' ev) ty)
  rc : W.heap[w.heap.size]? = some (.cells cr 25)
  re : W.heap[w.heap.size + 1]? = some (.cells er 33)
  rz : W.heap[w.heap.size + 1 + 1]? = some (.cells zr 25)
  oe : W.ownsRow B 33 5 ev ls.length (eFlat ls)
  ne : ∀ x ∈ ls, NewE B W x
  og : W.ownsRow B 64 3 gv gs.length (gFlat gs)
  gB : g < B
  eg : w.heap.size + 1 + 1 < g
  sz : B ≤ W.heap.size
theorem JI.kept {w : World} {g B : Nat} {rw' : Value → Array Value} {ty : TypeId} {cr er zr : Array Value} {W W' : World} {ev gv : Value} {ls : List Ent} {gs : List Gi} (h : JI w g B rw' ty cr er zr W ev gv ls gs) (hb : Below W.heap.size W W') : JI w g B rw' ty cr er zr W' ev gv ls gs :=
  ⟨h.bel.trans (hb.mono h.bel.size), row_kept h.rg hb, row_kept h.rc hb, row_kept h.re hb, row_kept h.rz hb, owns_below (B := 0) h.oe hb, fun x hx => (h.ne x hx).kept hb, owns_below (B := 0) h.og hb, h.gB, h.eg, Nat.le_trans h.sz hb.size⟩
theorem JI.back {w : World} {g B : Nat} {rw' : Value → Array Value} {ty : TypeId} {cr er zr : Array Value} {W W' : World} {ev gv gv' : Value} {ls : List Ent} {gs hs : List Gi} (h : JI w g B rw' ty cr er zr W ev gv ls gs) (hg : Grow B W W' gv gv' gs.length hs.length (gFlat gs) (gFlat hs)) : JI w g B rw' ty cr er zr W' ev gv' ls (gs ++ hs) := by
  have hB := h.bel.size
  have h1 := h.gB
  have h2 := h.eg
  have hn : ∀ k, k < B → gv.ownBlock ≠ some k := fun k hk e => by have := (h.og.lt k e).1; omega
  have hbel : Below w.heap.size w W' := h.bel.trans (hg.below h.og (by omega) h.bel.size)
  have hap : ∀ {t s n : Nat} {v : Value} {xs : List Value} {B' : Nat}, W.ownsRow B' t s v n xs → t ≠ 64 → W'.ownsRow B' t s v n xs := fun ho ht => hg.only.owns ho (fun k hk hk2 => by
    rcases owns_apart ho h.og ht with e | e
    · rw [e] at hk; cases hk
    · exact e (hk.trans hk2.symm))
  exact ⟨hbel, hg.only.row h.rg (hn _ h1), hg.only.row h.rc (hn _ (by omega)), hg.only.row h.re (hn _ (by omega)), hg.only.row h.rz (hn _ (by omega)), hap h.oe (by decide), fun x hx => ⟨hap (h.ne x hx).row (by decide), (h.ne x hx).mx, (h.ne x hx).wf, (h.ne x hx).iw, (h.ne x hx).cw, (h.ne x hx).pw⟩,
    by rw [List.length_append, gFlat_append]; exact hg.row, h1, h2, Nat.le_trans h.sz hg.only.size⟩
theorem JI.push {w : World} {g B : Nat} {rw' : Value → Array Value} {ty : TypeId} {cr er zr : Array Value} {W W6 w7 w8 : World} {ev gv v2 : Value} {ls : List Ent} {gs : List Gi} {y : Ent} {X : Obj} (h : JI w g B rw' ty cr er zr W ev gv ls gs) (hb : Below W.heap.size W W6) (hy : NewE W.heap.size W6 y)
    (hg : (W6.alloc X).grownBy w7 ev.ownBlock) (ho : w7.ownsRow B 33 5 v2 (ls.length + 1) (eFlat ls ++ eFlat [y])) (hp : Put w7 g (.cells (rw' v2) ty) w8) : JI w g B rw' ty cr er zr w8 v2 gv (ls ++ [y]) gs := by
  have h6 := h.kept hb
  have h1 := h.gB
  have h2 := h.eg
  have hal : Below W6.heap.size W6 (W6.alloc X) := (Below.refl _ _).alloc (Nat.le_refl _) X
  have ha := h6.kept hal
  have hn : ∀ k, k < B → some k ≠ ev.ownBlock := fun k hk e => by have := (ha.oe.lt k e.symm).1; omega
  have hb7 : Below w.heap.size w w7 := ha.bel.grown hg ha.bel.size (fun k hk => by have := (ha.oe.lt k hk).1; omega)
  have hkp : ∀ {t s n : Nat} {v : Value} {xs : List Value} {B' : Nat}, (W6.alloc X).ownsRow B' t s v n xs → t ≠ 33 → w7.ownsRow B' t s v n xs := fun hh ht => hh.kept hg (owns_apart hh ha.oe ht)
  have hpp : ∀ {t s n : Nat} {v : Value} {xs : List Value} {B' : Nat}, B ≤ B' → w7.ownsRow B' t s v n xs → w8.ownsRow B' t s v n xs := fun hB hh => hh.kept hp.grown (.inr (fun e => by have := (hh.lt _ e).1; omega))
  have hne : ∀ {x : Ent}, NewE B (W6.alloc X) x → NewE B w8 x := fun hx => ⟨hpp (Nat.le_refl _) (hkp hx.row (by decide)), hx.mx, hx.wf, hx.iw, hx.cw, hx.pw⟩
  refine ⟨hp.below hb7 hb7.size (by omega), hp.at', hp.row (row_past ha.rc hg (hn _ (by omega))) (by omega), hp.row (row_past ha.re hg (hn _ (by omega))) (by omega), hp.row (row_past ha.rz hg (hn _ (by omega))) (by omega), by rw [List.length_append, eFlat_append]; exact hpp (Nat.le_refl _) ho, fun x hx => ?_, hpp (Nat.le_refl _) (hkp ha.og (by decide)), h1, h2, ?_⟩
  · rcases List.mem_append.1 hx with hx | hx
    · exact hne (ha.ne x hx)
    · rw [List.mem_singleton] at hx
      subst hx
      exact hne ((hy.base h.sz).kept hal)
  · have := ha.sz; have := hg.size; have := hp.size; omega
theorem JI.done {w : World} {g B : Nat} {rw' : Value → Array Value} {ty : TypeId} {cr er zr : Array Value} {W w9 : World} {ev gv : Value} {ls : List Ent} {gs : List Gi} {o : Obj} (h : JI w g B rw' ty cr er zr W ev gv ls gs) (hp : Put W (w.heap.size + 1 + 1) o w9) :
    Below w.heap.size w w9 ∧ w9.ownsRow w.heap.size 33 5 ev ls.length (eFlat ls) ∧ (∀ x ∈ ls, NewE w.heap.size w9 x) ∧ w9.ownsRow w.heap.size 64 3 gv gs.length (gFlat gs) := by
  have h1 := h.gB
  have h2 := h.eg
  have hpp : ∀ {t s n : Nat} {v : Value} {xs : List Value} {B' : Nat}, B ≤ B' → W.ownsRow B' t s v n xs → w9.ownsRow B' t s v n xs := fun hB hh => hh.kept hp.grown (.inr (fun e => by have := (hh.lt _ e).1; omega))
  exact ⟨hp.below h.bel h.bel.size (by omega), owns_base (hpp (Nat.le_refl _) h.oe) (by omega), fun x hx => (NewE.base ⟨hpp (Nat.le_refl _) (h.ne x hx).row, (h.ne x hx).mx, (h.ne x hx).wf, (h.ne x hx).iw, (h.ne x hx).cw, (h.ne x hx).pw⟩ (by omega)), owns_base (hpp (Nat.le_refl _) h.og) (by omega)⟩
/-- How many entries are kept behind j rounds; what was given back. -/
def keptN (k : Int) (n j : Nat) : Nat := if k = 2 ∧ 1 < n ∧ j = n then n - 1 else j
def gsK (k : Int) (l : List DE) (j : Nat) : List Gi := if k = 2 ∧ 1 < l.length ∧ j = l.length then giveL (dA l (l.length - 1)) (dI l (l.length - 1)) (dC l (l.length - 1)) else []
theorem keptN_lt {k : Int} {n j : Nat} (h : j < n) : keptN k n j = j := if_neg (by omega)
theorem gsK_lt {k : Int} {l : List DE} {j : Nat} (h : j < l.length) : gsK k l j = [] := if_neg (by omega)
theorem keptN_end (k : Int) (l : List DE) : keptN k l.length l.length = stays k l := by unfold keptN stays; simp
theorem gsK_end (k : Int) (l : List DE) : gsK k l l.length = joinG k l := by unfold gsK joinG; simp
theorem eFlat_drop1 (es : List Ent) : eFlat (es.drop 1) = (eFlat es).drop 5 := by cases es <;> simp [eFlat, Ent.cells]
end Go.Proofs.Ytpejcndfplbikaa
