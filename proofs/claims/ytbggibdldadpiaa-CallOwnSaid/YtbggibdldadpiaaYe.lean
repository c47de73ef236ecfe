/-
  Layer 19: contracts, entries, gifts as values.
-/
import Derived.Test.YtbggibdldadpiaaJd
import Derived.Test.YtbggibdldadpiaaYa
namespace Go.Proofs.Ytbggibdldadpiaa
open Go.ChangeShapes Go.WideShapes Go.ChangeAt Go.RowKit Go.K
set_option linter.unusedVariables false
set_option linter.unusedSimpArgs false
theorem list_of_all {α : Type} {P : Nat → α → Prop} : ∀ (n : Nat), (∀ i, i < n → ∃ a, P i a) → ∃ l : List α, l.length = n ∧ ∀ i (h : i < l.length), P i l[i]
  | 0, _ => ⟨[], rfl, fun i h => by cases h⟩
  | n + 1, h => by
    obtain ⟨l, hl, hp⟩ := list_of_all n (fun i hi => h i (by omega))
    obtain ⟨a, ha⟩ := h n (by omega)
    refine ⟨l ++ [a], by simp [hl], fun i hi => ?_⟩
    by_cases h1 : i < l.length
    · rw [List.getElem_append_left h1]; exact hp i h1
    · have : i = l.length := by simp at hi; omega
      subst this
      rw [List.getElem_append_right (Nat.le_refl _)]
      simp only [Nat.sub_self, List.getElem_cons_zero]
      rw [hl]; exact ha
def Wf (l : List Int) : Prop := ∀ x ∈ l, (Lit.int .i64 x).wf = true
theorem infoE : (Try.prog.info? 53).map (fun i => (i.zero, i.size, i.bytes)) = some (some (.agg #[.int .i64 0, .int .i64 0, .int .u64 0, .int .u64 0, .slice none 0 0]), 5, 56) := by kernel_rfl
theorem infoG : (Try.prog.info? 87).map (fun i => (i.zero, i.size, i.bytes)) = some (some (.agg #[.int .i64 0, .int .i64 0, .int .u64 0]), 3, 24) := by kernel_rfl
theorem szU : (Try.prog.info? 23).map (·.size) = some 1 := by kernel_rfl
theorem szEs : (Try.prog.info? 49).map (·.size) = some 1 := by kernel_rfl
theorem szL : (Try.prog.info? 24).map (·.size) = some 1 := by kernel_rfl
theorem szE : (Try.prog.info? 53).map (·.size) = some 5 := by kernel_rfl
theorem szC : (Try.prog.info? 51).map (·.size) = some 11 := by kernel_rfl
theorem szG : (Try.prog.info? 87).map (·.size) = some 3 := by kernel_rfl
/-- An entry, as it lies: its numbers, its wishes and where they lie. -/
structure Ent where
  acc : Int
  item : Int
  coins : Int
  price : Int
  wa : Option Addr
  wc : Nat
  ws : List Int
def Ent.cells (e : Ent) : List Value := [.int .i64 e.acc, .int .i64 e.item, .int .u64 e.coins, .int .u64 e.price, .slice e.wa e.ws.length e.wc]
def Ent.agg (e : Ent) : Value := .agg #[.int .i64 e.acc, .int .i64 e.item, .int .u64 e.coins, .int .u64 e.price, .slice e.wa e.ws.length e.wc]
/-- What it says. -/
def Ent.d (e : Ent) : Int × Int × Int × Int × List Int := (e.acc, e.item, e.coins, e.price, e.ws)
structure EntOk (W : World) (e : Ent) : Prop where
  sl : Sl W e.wa (vI e.ws)
  le : e.ws.length ≤ e.wc
  mx : e.ws.length ≤ 17592186043904
  nil : e.wa = none → e.ws.length = 0 ∧ e.wc = 0
  wf : Wf e.ws
  iw : (Lit.int .i64 e.item).wf = true
  cw : (Lit.int .u64 e.coins).wf = true
  pw : (Lit.int .u64 e.price).wf = true
structure Con where
  num : Int
  kind : Int
  by' : Int
  dl : Int
  to' : Int
  want : Int
  price : Int
  reserve : Int
  step : Int
  of' : Int
  ea : Option Addr
  ec : Nat
  es : List Ent
def eFlat (l : List Ent) : List Value := l.flatMap Ent.cells
def Con.agg (c : Con) : Value := .agg #[.int .i64 c.num, .int .i64 c.kind, .int .i64 c.by', .int .i64 c.dl, .int .i64 c.to', .int .i64 c.want, .int .u64 c.price, .int .u64 c.reserve, .int .u64 c.step, .int .i64 c.of', .slice c.ea c.es.length c.ec]
def Con.d (c : Con) : (Int × Int × Int × Int × Int) × (Int × Int × Int × Int × Int) × List (Int × Int × Int × Int × List Int) := ((c.num, c.kind, c.by', c.dl, c.to'), (c.want, c.price, c.reserve, c.step, c.of'), c.es.map Ent.d)
structure ConOk (W : World) (c : Con) : Prop where
  sl : Sl W c.ea (eFlat c.es)
  ents : ∀ e ∈ c.es, EntOk W e
  le : c.es.length ≤ c.ec
  mx : c.es.length ≤ 2513169434843
  nil : c.ea = none → c.es.length = 0 ∧ c.ec = 0
theorem eFlat_length (l : List Ent) : (eFlat l).length = l.length * 5 := by
  induction l with
  | nil => rfl
  | cons e l ih => show (e.cells ++ eFlat l).length = _; rw [List.length_append, ih]; simp [Ent.cells]; omega
theorem eFlat_append (l m : List Ent) : eFlat (l ++ m) = eFlat l ++ eFlat m := by simp [eFlat]
theorem eFlat_get (l : List Ent) (i j : Nat) (h : i < l.length) (hj : j < 5) : (eFlat l)[i * 5 + j]? = l[i].cells[j]? := by
  have e1 : l = l.take i ++ l[i] :: l.drop (i + 1) := by rw [← List.drop_eq_getElem_cons h, List.take_append_drop]
  have h1 : eFlat l = eFlat (l.take i) ++ (l[i].cells ++ eFlat (l.drop (i + 1))) := by
    conv => lhs; rw [e1]
    rw [eFlat_append]; rfl
  rw [h1, List.getElem?_append_right (by rw [eFlat_length, List.length_take]; omega), eFlat_length, List.length_take, Nat.min_eq_left (by omega), show i * 5 + j - i * 5 = j by omega, List.getElem?_append_left (by simpa [Ent.cells] using hj)]
theorem EntOk.kept {W W' : World} {e : Ent} (h : EntOk W e) (hb : Below W.heap.size W W') : EntOk W' e := ⟨h.sl.kept hb, h.le, h.mx, h.nil, h.wf, h.iw, h.cw, h.pw⟩
theorem ConOk.kept {W W' : World} {c : Con} (h : ConOk W c) (hb : Below W.heap.size W W') : ConOk W' c :=
  ⟨h.sl.kept hb, fun e he => (h.ents e he).kept hb, h.le, h.mx, h.nil⟩
/-- The cells of entry number i. -/
theorem ConOk.ent {W : World} {c : Con} (h : ConOk W c) (i : Nat) (hi : i < c.es.length) : ∃ b off, c.ea = some ⟨b, off, none⟩ ∧
    W.cell? ⟨b, off + i * 5, none⟩ = some (.int .i64 c.es[i].acc) ∧ W.cell? ⟨b, off + i * 5 + 1, none⟩ = some (.int .i64 c.es[i].item) ∧ W.cell? ⟨b, off + i * 5 + 2, none⟩ = some (.int .u64 c.es[i].coins) ∧
    W.cell? ⟨b, off + i * 5 + 3, none⟩ = some (.int .u64 c.es[i].price) ∧ W.cell? ⟨b, off + i * 5 + 4, none⟩ = some (.slice c.es[i].wa c.es[i].ws.length c.es[i].wc) := by
  have hl := eFlat_length c.es
  obtain ⟨b, off, he, hc⟩ := h.sl (fun e => by rw [e] at hl; simp at hl; omega)
  refine ⟨b, off, he, ?_, ?_, ?_, ?_, ?_⟩
  · have := hc (i * 5 + 0) (by omega)
    rw [eFlat_get _ i 0 hi (by omega)] at this; exact this
  · have := hc (i * 5 + 1) (by omega)
    rw [eFlat_get _ i 1 hi (by omega)] at this; rw [Nat.add_assoc]; exact this
  · have := hc (i * 5 + 2) (by omega)
    rw [eFlat_get _ i 2 hi (by omega)] at this; rw [Nat.add_assoc]; exact this
  · have := hc (i * 5 + 3) (by omega)
    rw [eFlat_get _ i 3 hi (by omega)] at this; rw [Nat.add_assoc]; exact this
  · have := hc (i * 5 + 4) (by omega)
    rw [eFlat_get _ i 4 hi (by omega)] at this; rw [Nat.add_assoc]; exact this
structure Gi where
  to' : Int
  item : Int
  coins : Int
def Gi.cells (g : Gi) : List Value := [.int .i64 g.to', .int .i64 g.item, .int .u64 g.coins]
def Gi.agg (g : Gi) : Value := .agg #[.int .i64 g.to', .int .i64 g.item, .int .u64 g.coins]
def gFlat (l : List Gi) : List Value := l.flatMap Gi.cells
theorem gFlat_length (l : List Gi) : (gFlat l).length = l.length * 3 := by
  induction l with
  | nil => rfl
  | cons e l ih => show (e.cells ++ gFlat l).length = _; rw [List.length_append, ih]; simp [Gi.cells]; omega
theorem gFlat_append (l m : List Gi) : gFlat (l ++ m) = gFlat l ++ gFlat m := by simp [gFlat]
theorem gFlat_get (l : List Gi) (i j : Nat) (h : i < l.length) (hj : j < 3) : (gFlat l)[i * 3 + j]? = l[i].cells[j]? := by
  have e1 : l = l.take i ++ l[i] :: l.drop (i + 1) := by rw [← List.drop_eq_getElem_cons h, List.take_append_drop]
  have h1 : gFlat l = gFlat (l.take i) ++ (l[i].cells ++ gFlat (l.drop (i + 1))) := by
    conv => lhs; rw [e1]
    rw [gFlat_append]; rfl
  rw [h1, List.getElem?_append_right (by rw [gFlat_length, List.length_take]; omega), gFlat_length, List.length_take, Nat.min_eq_left (by omega), show i * 3 + j - i * 3 = j by omega, List.getElem?_append_left (by simpa [Gi.cells] using hj)]
/-- The cells of gift number i. -/
theorem gift_at {W : World} {a : Option Addr} {l : List Gi} (h : Sl W a (gFlat l)) (i : Nat) (hi : i < l.length) : ∃ b off, a = some ⟨b, off, none⟩ ∧
    W.cell? ⟨b, off + i * 3, none⟩ = some (.int .i64 l[i].to') ∧ W.cell? ⟨b, off + i * 3 + 1, none⟩ = some (.int .i64 l[i].item) ∧ W.cell? ⟨b, off + i * 3 + 2, none⟩ = some (.int .u64 l[i].coins) := by
  have hl := gFlat_length l
  obtain ⟨b, off, he, hc⟩ := h (fun e => by rw [e] at hl; simp at hl; omega)
  refine ⟨b, off, he, ?_, ?_, ?_⟩
  · have := hc (i * 3 + 0) (by omega)
    rw [gFlat_get _ i 0 hi (by omega)] at this; exact this
  · have := hc (i * 3 + 1) (by omega)
    rw [gFlat_get _ i 1 hi (by omega)] at this; rw [Nat.add_assoc]; exact this
  · have := hc (i * 3 + 2) (by omega)
    rw [gFlat_get _ i 2 hi (by omega)] at this; rw [Nat.add_assoc]; exact this
/-- A contract in a variable. -/
def Box (W : World) (g : Nat) (c : Con) : Prop := W.heap[g]? = some (.cells #[.int .i64 c.num, .int .i64 c.kind, .int .i64 c.by', .int .i64 c.dl, .int .i64 c.to', .int .i64 c.want, .int .u64 c.price, .int .u64 c.reserve, .int .u64 c.step, .int .i64 c.of', .slice c.ea c.es.length c.ec] 51)
theorem Box.kept {W W' : World} {g : Nat} {c : Con} (h : Box W g c) (hb : Below W.heap.size W W') : Box W' g c := row_kept h hb
theorem Box.alloc {W : World} {g : Nat} {c : Con} (h : Box W g c) (X : Obj) : Box (W.alloc X) g c := alloc_old h
theorem Box.only {S : Nat → Prop} {W W' : World} {g : Nat} {c : Con} (h : Box W g c) (ho : Only S W W') (hn : ¬ S g) : Box W' g c := ho.row h hn
theorem Box.lt {W : World} {g : Nat} {c : Con} (h : Box W g c) : g < W.heap.size := lt_row h
theorem Box.cells {W : World} {g : Nat} {c : Con} (h : Box W g c) : W.cell? ⟨g, 0, none⟩ = some (.int .i64 c.num) ∧ W.cell? ⟨g, 1, none⟩ = some (.int .i64 c.kind) ∧ W.cell? ⟨g, 2, none⟩ = some (.int .i64 c.by') ∧
    W.cell? ⟨g, 3, none⟩ = some (.int .i64 c.dl) ∧ W.cell? ⟨g, 4, none⟩ = some (.int .i64 c.to') ∧ W.cell? ⟨g, 5, none⟩ = some (.int .i64 c.want) ∧ W.cell? ⟨g, 6, none⟩ = some (.int .u64 c.price) ∧
    W.cell? ⟨g, 7, none⟩ = some (.int .u64 c.reserve) ∧ W.cell? ⟨g, 8, none⟩ = some (.int .u64 c.step) ∧ W.cell? ⟨g, 9, none⟩ = some (.int .i64 c.of') ∧ W.cell? ⟨g, 10, none⟩ = some (.slice c.ea c.es.length c.ec) := cells11 h
/-- The same in a world and one block more. -/
theorem Box.cellsA {W : World} {g : Nat} {c : Con} (h : Box W g c) : (∀ X, (W.alloc X).cell? ⟨g, 0, none⟩ = some (.int .i64 c.num)) ∧ (∀ X, (W.alloc X).cell? ⟨g, 1, none⟩ = some (.int .i64 c.kind)) ∧ (∀ X, (W.alloc X).cell? ⟨g, 2, none⟩ = some (.int .i64 c.by')) ∧
    (∀ X, (W.alloc X).cell? ⟨g, 3, none⟩ = some (.int .i64 c.dl)) ∧ (∀ X, (W.alloc X).cell? ⟨g, 4, none⟩ = some (.int .i64 c.to')) ∧ (∀ X, (W.alloc X).cell? ⟨g, 5, none⟩ = some (.int .i64 c.want)) ∧ (∀ X, (W.alloc X).cell? ⟨g, 6, none⟩ = some (.int .u64 c.price)) ∧
    (∀ X, (W.alloc X).cell? ⟨g, 7, none⟩ = some (.int .u64 c.reserve)) ∧ (∀ X, (W.alloc X).cell? ⟨g, 8, none⟩ = some (.int .u64 c.step)) ∧ (∀ X, (W.alloc X).cell? ⟨g, 9, none⟩ = some (.int .i64 c.of')) ∧ (∀ X, (W.alloc X).cell? ⟨g, 10, none⟩ = some (.slice c.ea c.es.length c.ec)) :=
  ⟨fun X => (h.alloc X).cells.1, fun X => (h.alloc X).cells.2.1, fun X => (h.alloc X).cells.2.2.1, fun X => (h.alloc X).cells.2.2.2.1, fun X => (h.alloc X).cells.2.2.2.2.1, fun X => (h.alloc X).cells.2.2.2.2.2.1, fun X => (h.alloc X).cells.2.2.2.2.2.2.1,
    fun X => (h.alloc X).cells.2.2.2.2.2.2.2.1, fun X => (h.alloc X).cells.2.2.2.2.2.2.2.2.1, fun X => (h.alloc X).cells.2.2.2.2.2.2.2.2.2.1, fun X => (h.alloc X).cells.2.2.2.2.2.2.2.2.2.2⟩
theorem ConOk.slE {W : World} {c : Con} (h : ConOk W c) : Sl W c.ea (eFlat c.es) := h.sl
/-- The cells of entry number i, of a slice of entries. -/
theorem ent_at {W : World} {a : Option Addr} {l : List Ent} (h : Sl W a (eFlat l)) (i : Nat) (hi : i < l.length) : ∃ b off, a = some ⟨b, off, none⟩ ∧
    W.cell? ⟨b, off + i * 5, none⟩ = some (.int .i64 l[i].acc) ∧ W.cell? ⟨b, off + i * 5 + 1, none⟩ = some (.int .i64 l[i].item) ∧ W.cell? ⟨b, off + i * 5 + 2, none⟩ = some (.int .u64 l[i].coins) ∧
    W.cell? ⟨b, off + i * 5 + 3, none⟩ = some (.int .u64 l[i].price) ∧ W.cell? ⟨b, off + i * 5 + 4, none⟩ = some (.slice l[i].wa l[i].ws.length l[i].wc) := by
  have hl := eFlat_length l
  obtain ⟨b, off, he, hc⟩ := h (fun e => by rw [e] at hl; simp at hl; omega)
  refine ⟨b, off, he, ?_, ?_, ?_, ?_, ?_⟩
  · have := hc (i * 5 + 0) (by omega)
    rw [eFlat_get _ i 0 hi (by omega)] at this; exact this
  · have := hc (i * 5 + 1) (by omega)
    rw [eFlat_get _ i 1 hi (by omega)] at this; rw [Nat.add_assoc]; exact this
  · have := hc (i * 5 + 2) (by omega)
    rw [eFlat_get _ i 2 hi (by omega)] at this; rw [Nat.add_assoc]; exact this
  · have := hc (i * 5 + 3) (by omega)
    rw [eFlat_get _ i 3 hi (by omega)] at this; rw [Nat.add_assoc]; exact this
  · have := hc (i * 5 + 4) (by omega)
    rw [eFlat_get _ i 4 hi (by omega)] at this; rw [Nat.add_assoc]; exact this
/-- An entry, out of its cells. -/
theorem ent_of_trod {H : Type} {enc : TypeId × Value → H} {W : World} {n : Nat} {cs : List Value} {y : DataW H × List MemPlace}
    (h : DataW.trod enc Try.prog W 0 (fun _ => true) true n 53 cs = some y) (hw : ∀ q ∈ y.1.weights Try.prog 53, q ≤ reachBytes) : ∃ e : Ent, cs = e.cells ∧ EntOk W e := by
  obtain ⟨xs, n', _, hxx, hlen, hxl, hfl⟩ := DataW.trod_struct Try.underlying53 h
  have s44 : Try.prog.cellsOf 53 = 5 := by kernel_rfl
  have s3 : Try.prog.cellsOf 3 = 1 := by kernel_rfl
  have s22 : Try.prog.cellsOf 23 = 1 := by kernel_rfl
  have s42 : Try.prog.cellsOf 24 = 1 := by kernel_rfl
  rw [s44] at hlen
  have hf0 : DataW.trod enc Try.prog W 0 (fun _ => true) true n' 3 ((cs.drop 0).take (Try.prog.cellsOf 3)) = xs[0]? := hfl 0 _ rfl
  have hf1 : DataW.trod enc Try.prog W 0 (fun _ => true) true n' 3 ((cs.drop 1).take (Try.prog.cellsOf 3)) = xs[1]? := hfl 1 _ rfl
  have hf2 : DataW.trod enc Try.prog W 0 (fun _ => true) true n' 23 ((cs.drop 2).take (Try.prog.cellsOf 23)) = xs[2]? := hfl 2 _ rfl
  have hf3 : DataW.trod enc Try.prog W 0 (fun _ => true) true n' 23 ((cs.drop 3).take (Try.prog.cellsOf 23)) = xs[3]? := hfl 3 _ rfl
  have hf4 : DataW.trod enc Try.prog W 0 (fun _ => true) true n' 24 ((cs.drop 4).take (Try.prog.cellsOf 24)) = xs[4]? := hfl 4 _ rfl
  rw [s3] at hf0 hf1
  rw [s22] at hf2 hf3
  rw [s42] at hf4
  have hxl' : xs.length = 5 := hxl
  clear hxl hfl
  match cs, hlen, xs, hxl' with
  | [v0, v1, v2, v3, v4], _, [y0, y1, y2, y3, y4], _ =>
  obtain ⟨a0, rfl, w0⟩ := trod_int_inv Try.underlying3 hf0
  obtain ⟨a1, rfl, w1⟩ := trod_int_inv Try.underlying3 hf1
  obtain ⟨a2, rfl, w2⟩ := trod_int_inv Try.underlying23 hf2
  obtain ⟨a3, rfl, w3⟩ := trod_int_inv Try.underlying23 hf3
  have hf4' : DataW.trod enc Try.prog W 0 (fun _ => true) true n' 24 [v4] = some y4 := hf4
  rcases open_ints Try.underlying24 Try.underlying3 (by kernel_rfl) hf4' with ⟨hcs, hx⟩ | ⟨x, len, cap, zs, hcs, _, hl, hm, hz, hx, hcell, hwz⟩
  · simp at hcs
    subst hcs
    exact ⟨⟨a0, a1, a2, a3, none, 0, []⟩, rfl, ⟨Sl.nil _ _, Nat.le_refl _, Nat.zero_le _, (fun _ => ⟨rfl, rfl⟩), (fun x hx => by cases hx), w1, w2, w3⟩⟩
  · simp at hcs
    subst hcs
    simp only [if_true] at hz
    have hlen : (zs.take len).length = len := by simp; omega
    have hb : cap * 8 ≤ reachBytes := by
      have hxa : y.1 = .agg [y0.1, y1.1, y2.1, y3.1, y4.1] := by rw [hxx]; rfl
      have hy4 : y4.1 = .slice (lits .i64 (zs.take len)) (lits .i64 (zs.drop len)) := by rw [hx]
      have h9 : ((lits (H := H) IntKind.i64 (zs.take len)).length + (lits (H := H) IntKind.i64 (zs.drop len)).length) * Try.prog.bytesOf 3 ≤ reachBytes := by
        refine hw _ ?_
        rw [hxa, DataW.weights, Try.underlying53]
        refine DataW.weights_mem_each (ts := [3, 3, 23, 23, 24]) (ds := [y0.1, y1.1, y2.1, y3.1, y4.1]) (j := 4) (t := 24) (d := y4.1) rfl rfl _ ?_
        rw [hy4, DataW.weights, Try.underlying24]
        exact List.mem_cons_self
      have h8 : Try.prog.bytesOf 3 = 8 := by kernel_rfl
      rw [h8] at h9
      simp only [lits, List.length_map, List.length_take, List.length_drop] at h9
      omega
    unfold reachBytes at hb
    refine ⟨⟨a0, a1, a2, a3, some x, cap, zs.take len⟩, ?_, ⟨?_, ?_, ?_, (fun h => by cases h), (fun z hz => hwz z (List.mem_of_mem_take hz)), w1, w2, w3⟩⟩
    · simp only [Ent.cells, hlen]
    · intro hne
      have h0 : 0 < len := by
        rcases Nat.eq_zero_or_pos len with h' | h'
        · subst h'; exact absurd (by simp [vI]) hne
        · exact h'
      obtain ⟨b, off, spot⟩ := x
      have hspot : spot = none := by simpa [Addr.add] using World.cell?_spot (hcell 0 (by omega))
      subst hspot
      refine ⟨b, off, rfl, fun i hi => ?_⟩
      rw [vI_length, hlen] at hi
      have h1 := hcell i (by omega)
      rw [add_spot'] at h1
      rw [h1, vI_get _ _ (by rw [hlen]; exact hi)]
      simp [List.getD, List.getElem?_eq_getElem (show i < zs.length by omega)]
    · simp only [hlen]; exact hl
    · simp only [hlen]; omega
/-- A slice of entries that came in. -/
theorem ents_of_trod {H : Type} {enc : TypeId × Value → H} {W : World} {n : Nat} {v : Value} {y : DataW H × List MemPlace}
    (h : DataW.trod enc Try.prog W 0 (fun _ => true) true n 49 [v] = some y) (hw : ∀ q ∈ y.1.weights Try.prog 49, q ≤ reachBytes) :
    ∃ (ea : Option Addr) (ec : Nat) (es : List Ent), v = .slice ea es.length ec ∧ Sl W ea (eFlat es) ∧ (∀ e ∈ es, EntOk W e) ∧ es.length ≤ ec ∧ es.length ≤ 2513169434843 ∧ (ea = none → es.length = 0 ∧ ec = 0) := by
  rcases Go.Deep.open_slice Try.underlying49 h with ⟨hcs, hx⟩ | ⟨x, len, cap, m, k, D, Pl, hcs, _, hl, hm, hmm, hx, hel⟩
  · simp at hcs
    subst hcs
    exact ⟨none, 0, [], rfl, Sl.nil _ _, (fun e he => by cases he), Nat.le_refl _, by decide, fun _ => ⟨rfl, rfl⟩⟩
  · simp at hcs
    subst hcs
    simp only [if_true] at hmm
    subst hmm
    have hC : Try.prog.cellsOf 53 = 5 := by kernel_rfl
    rw [hC] at hel
    have hy : y.1 = .slice ((List.range len).map D) ((List.range (m - len)).map fun j => D (len + j)) := by rw [hx]
    have hin : ∀ i, i < len → ∀ q ∈ (D i).weights Try.prog 53, q ≤ reachBytes := by
      intro i hi q hq
      refine hw q ?_
      rw [hy, DataW.weights, Try.underlying49]
      exact List.mem_cons_of_mem _ (List.mem_append_left _ (weights_mem_all (List.mem_map_of_mem (List.mem_range.2 hi)) q hq))
    have hbig : len * 56 ≤ reachBytes := by
      have h9 : (((List.range len).map D).length + ((List.range (m - len)).map fun j => D (len + j)).length) * Try.prog.bytesOf 53 ≤ reachBytes := by
        refine hw _ ?_
        rw [hy, DataW.weights, Try.underlying49]
        exact List.mem_cons_self
      have h8 : Try.prog.bytesOf 53 = 56 := by kernel_rfl
      rw [h8] at h9
      simp only [List.length_map, List.length_range] at h9
      omega
    unfold reachBytes at hbig
    have hall : ∀ i, i < len → ∃ e : Ent, (∀ j, j < 5 → W.cell? ((x.add (i * 5)).add j) = e.cells[j]?) ∧ EntOk W e := by
      intro i hi
      obtain ⟨cs', h1, h2⟩ := hel i (by omega)
      obtain ⟨_, hlen, hcell⟩ := World.cells?_some h1
      obtain ⟨e, rfl, he⟩ := ent_of_trod h2 (hin i hi)
      exact ⟨e, fun j hj => hcell j hj, he⟩
    obtain ⟨es, hes, hp⟩ := list_of_all len hall
    refine ⟨some x, m, es, by rw [hes], ?_, (fun e he => ?_), by omega, by omega, fun h => by cases h⟩
    · intro hne
      have h0 : 0 < es.length := by
        rcases es with _ | ⟨a, l⟩
        · exact absurd rfl hne
        · simp
      have hspot : x.spot = none := by
        have h1 := (hp 0 h0).1 0 (by omega)
        have : (es[0]).cells[0]? = some (.int .i64 (es[0]).acc) := rfl
        rw [this] at h1
        simpa [Addr.add] using World.cell?_spot h1
      obtain ⟨b, off, spot⟩ := x
      subst hspot
      refine ⟨b, off, rfl, fun i hi => ?_⟩
      rw [eFlat_length] at hi
      have h1 := (hp (i / 5) (by omega)).1 (i % 5) (by omega)
      rw [add_spot', add_spot'] at h1
      have h2 := eFlat_get es (i / 5) (i % 5) (by omega) (by omega)
      rw [show i / 5 * 5 + i % 5 = i by omega] at h2
      rw [h2, ← h1, Nat.add_assoc, show i / 5 * 5 + i % 5 = i by omega]
    · obtain ⟨i, hi, rfl⟩ := List.getElem_of_mem he
      exact (hp i hi).2
/-- A contract that came in. -/
theorem open_con {H : Type} {enc : TypeId × Value → H} {W : World} {r : Reach} {b0 : Nat} {v : Value} {d : DataW H} {p : List MemPlace} (hv : Value.okWide Try.prog W r b0 51 v)
    (h : DataW.Trod enc Try.prog W 0 (fun _ => true) true 51 v d p)
    {ts : List TypeId} {ds : List (DataW H)} (hsz : (DataW.weightsEach Try.prog ts ds).all (· ≤ reachBytes) = true) {j : Nat} (hj : ts[j]? = some 51) (hd : ds[j]? = some d) :
    ∃ c : Con, v = c.agg ∧ ConOk W c := by
  obtain ⟨cs, rfl, hcs⟩ := okWide_struct Try.underlying51 hv
  obtain ⟨l⟩ := cs
  obtain ⟨fuel, h⟩ := h
  obtain ⟨xs, n', _, hxx, hlen, hxl, hfl⟩ := DataW.trod_struct Try.underlying51 h
  have s25 : Try.prog.cellsOf 51 = 11 := by kernel_rfl
  have s3 : Try.prog.cellsOf 3 = 1 := by kernel_rfl
  have s22 : Try.prog.cellsOf 23 = 1 := by kernel_rfl
  have s23 : Try.prog.cellsOf 49 = 1 := by kernel_rfl
  have hll : l.length = 11 := by rw [s25] at hcs; simpa using hcs
  have hl : (Value.agg ⟨l⟩).cells.toList = l := rfl
  rw [hl] at hfl
  have hf0 : DataW.trod enc Try.prog W 0 (fun _ => true) true n' 3 ((l.drop 0).take (Try.prog.cellsOf 3)) = xs[0]? := hfl 0 _ rfl
  have hf1 : DataW.trod enc Try.prog W 0 (fun _ => true) true n' 3 ((l.drop 1).take (Try.prog.cellsOf 3)) = xs[1]? := hfl 1 _ rfl
  have hf2 : DataW.trod enc Try.prog W 0 (fun _ => true) true n' 3 ((l.drop 2).take (Try.prog.cellsOf 3)) = xs[2]? := hfl 2 _ rfl
  have hf3 : DataW.trod enc Try.prog W 0 (fun _ => true) true n' 3 ((l.drop 3).take (Try.prog.cellsOf 3)) = xs[3]? := hfl 3 _ rfl
  have hf4 : DataW.trod enc Try.prog W 0 (fun _ => true) true n' 3 ((l.drop 4).take (Try.prog.cellsOf 3)) = xs[4]? := hfl 4 _ rfl
  have hf5 : DataW.trod enc Try.prog W 0 (fun _ => true) true n' 3 ((l.drop 5).take (Try.prog.cellsOf 3)) = xs[5]? := hfl 5 _ rfl
  have hf6 : DataW.trod enc Try.prog W 0 (fun _ => true) true n' 23 ((l.drop 6).take (Try.prog.cellsOf 23)) = xs[6]? := hfl 6 _ rfl
  have hf7 : DataW.trod enc Try.prog W 0 (fun _ => true) true n' 23 ((l.drop 7).take (Try.prog.cellsOf 23)) = xs[7]? := hfl 7 _ rfl
  have hf8 : DataW.trod enc Try.prog W 0 (fun _ => true) true n' 23 ((l.drop 8).take (Try.prog.cellsOf 23)) = xs[8]? := hfl 8 _ rfl
  have hf9 : DataW.trod enc Try.prog W 0 (fun _ => true) true n' 3 ((l.drop 9).take (Try.prog.cellsOf 3)) = xs[9]? := hfl 9 _ rfl
  have hf10 : DataW.trod enc Try.prog W 0 (fun _ => true) true n' 49 ((l.drop 10).take (Try.prog.cellsOf 49)) = xs[10]? := hfl 10 _ rfl
  rw [s3] at hf0 hf1 hf2 hf3 hf4 hf5 hf9
  rw [s22] at hf6 hf7 hf8
  rw [s23] at hf10
  have hxl' : xs.length = 11 := hxl
  clear hxl hfl
  match l, hll, xs, hxl' with
  | [v0, v1, v2, v3, v4, v5, v6, v7, v8, v9, v10], _, [y0, y1, y2, y3, y4, y5, y6, y7, y8, y9, y10], _ =>
  obtain ⟨a0, rfl, _⟩ := trod_int_inv Try.underlying3 hf0
  obtain ⟨a1, rfl, _⟩ := trod_int_inv Try.underlying3 hf1
  obtain ⟨a2, rfl, _⟩ := trod_int_inv Try.underlying3 hf2
  obtain ⟨a3, rfl, _⟩ := trod_int_inv Try.underlying3 hf3
  obtain ⟨a4, rfl, _⟩ := trod_int_inv Try.underlying3 hf4
  obtain ⟨a5, rfl, _⟩ := trod_int_inv Try.underlying3 hf5
  obtain ⟨a6, rfl, _⟩ := trod_int_inv Try.underlying23 hf6
  obtain ⟨a7, rfl, _⟩ := trod_int_inv Try.underlying23 hf7
  obtain ⟨a8, rfl, _⟩ := trod_int_inv Try.underlying23 hf8
  obtain ⟨a9, rfl, _⟩ := trod_int_inv Try.underlying3 hf9
  have hf10' : DataW.trod enc Try.prog W 0 (fun _ => true) true n' 49 [v10] = some y10 := hf10
  have hda : d = .agg [y0.1, y1.1, y2.1, y3.1, y4.1, y5.1, y6.1, y7.1, y8.1, y9.1, y10.1] := by injection hxx
  obtain ⟨ea, ec, es, rfl, q1, q2, q3, q4, q5⟩ := ents_of_trod hf10' (fun q hq => by
    have h9 := List.all_eq_true.1 hsz q (DataW.weights_mem_each hj hd q (by
      rw [hda, DataW.weights, Try.underlying51]
      exact DataW.weights_mem_each (ts := [3, 3, 3, 3, 3, 3, 23, 23, 23, 3, 49]) (ds := [y0.1, y1.1, y2.1, y3.1, y4.1, y5.1, y6.1, y7.1, y8.1, y9.1, y10.1]) (j := 10) (t := 49) (d := y10.1) rfl rfl q hq))
    simpa using h9)
  exact ⟨⟨a0, a1, a2, a3, a4, a5, a6, a7, a8, a9, ea, ec, es⟩, rfl, ⟨q1, q2, q3, q4, q5⟩⟩
/-- An entry that came in. -/
theorem open_ent {H : Type} {enc : TypeId × Value → H} {W : World} {r : Reach} {b0 : Nat} {v : Value} {d : DataW H} {p : List MemPlace} (hv : Value.okWide Try.prog W r b0 53 v)
    (h : DataW.Trod enc Try.prog W 0 (fun _ => true) true 53 v d p)
    {ts : List TypeId} {ds : List (DataW H)} (hsz : (DataW.weightsEach Try.prog ts ds).all (· ≤ reachBytes) = true) {j : Nat} (hj : ts[j]? = some 53) (hd : ds[j]? = some d) :
    ∃ e : Ent, v = e.agg ∧ EntOk W e := by
  obtain ⟨cs, rfl, hcs⟩ := okWide_struct Try.underlying53 hv
  obtain ⟨l⟩ := cs
  obtain ⟨fuel, h⟩ := h
  have hl : (Value.agg ⟨l⟩).cells.toList = l := rfl
  rw [hl] at h
  obtain ⟨e, he, hk⟩ := ent_of_trod h (fun q hq => by
    have h9 := List.all_eq_true.1 hsz q (DataW.weights_mem_each hj hd q hq)
    simpa using h9)
  exact ⟨e, by rw [he]; rfl, hk⟩
end Go.Proofs.Ytbggibdldadpiaa


