/-
  Layer 20: contracts in boxes; what a statement hands to spoil.
-/
import Derived.Test.YtiafhgcnjgpeaaaXf
namespace Go.Proofs.Ytiafhgcnjgpeaaa
open Go.RowKit Go.K
set_option linter.unusedVariables false
set_option linter.unusedSimpArgs false

/-- A contract in a variable. -/
def Box (W : World) (g : Nat) (c : Con) : Prop := W.heap[g]? = some (.cells #[.int .i64 c.num, .int .i64 c.kind, .int .i64 c.by', .int .i64 c.dl, .int .i64 c.to, .int .i64 c.want, .int .u64 c.price, .int .u64 c.reserve, .int .u64 c.step, .int .i64 c.of', .slice c.ea c.es.length c.ec] 25)
theorem Box.kept {W W' : World} {g : Nat} {c : Con} (h : Box W g c) (hb : Below W.heap.size W W') : Box W' g c := row_kept h hb
theorem Box.alloc {W : World} {g : Nat} {c : Con} (h : Box W g c) (X : Obj) : Box (W.alloc X) g c := alloc_old h
theorem Box.only {S : Nat → Prop} {W W' : World} {g : Nat} {c : Con} (h : Box W g c) (ho : Only S W W') (hn : ¬ S g) : Box W' g c := ho.row h hn
theorem Box.lt {W : World} {g : Nat} {c : Con} (h : Box W g c) : g < W.heap.size := lt_row h
theorem Box.cells {W : World} {g : Nat} {c : Con} (h : Box W g c) : W.cell? ⟨g, 0, none⟩ = some (.int .i64 c.num) ∧ W.cell? ⟨g, 1, none⟩ = some (.int .i64 c.kind) ∧ W.cell? ⟨g, 2, none⟩ = some (.int .i64 c.by') ∧
    W.cell? ⟨g, 3, none⟩ = some (.int .i64 c.dl) ∧ W.cell? ⟨g, 4, none⟩ = some (.int .i64 c.to) ∧ W.cell? ⟨g, 5, none⟩ = some (.int .i64 c.want) ∧ W.cell? ⟨g, 6, none⟩ = some (.int .u64 c.price) ∧
    W.cell? ⟨g, 7, none⟩ = some (.int .u64 c.reserve) ∧ W.cell? ⟨g, 8, none⟩ = some (.int .u64 c.step) ∧ W.cell? ⟨g, 9, none⟩ = some (.int .i64 c.of') ∧ W.cell? ⟨g, 10, none⟩ = some (.slice c.ea c.es.length c.ec) := cells11 h
/-- The same in a world and one block more. -/
theorem Box.cellsA {W : World} {g : Nat} {c : Con} (h : Box W g c) : (∀ X, (W.alloc X).cell? ⟨g, 0, none⟩ = some (.int .i64 c.num)) ∧ (∀ X, (W.alloc X).cell? ⟨g, 1, none⟩ = some (.int .i64 c.kind)) ∧ (∀ X, (W.alloc X).cell? ⟨g, 2, none⟩ = some (.int .i64 c.by')) ∧
    (∀ X, (W.alloc X).cell? ⟨g, 3, none⟩ = some (.int .i64 c.dl)) ∧ (∀ X, (W.alloc X).cell? ⟨g, 4, none⟩ = some (.int .i64 c.to)) ∧ (∀ X, (W.alloc X).cell? ⟨g, 5, none⟩ = some (.int .i64 c.want)) ∧ (∀ X, (W.alloc X).cell? ⟨g, 6, none⟩ = some (.int .u64 c.price)) ∧
    (∀ X, (W.alloc X).cell? ⟨g, 7, none⟩ = some (.int .u64 c.reserve)) ∧ (∀ X, (W.alloc X).cell? ⟨g, 8, none⟩ = some (.int .u64 c.step)) ∧ (∀ X, (W.alloc X).cell? ⟨g, 9, none⟩ = some (.int .i64 c.of')) ∧ (∀ X, (W.alloc X).cell? ⟨g, 10, none⟩ = some (.slice c.ea c.es.length c.ec)) :=
  ⟨fun X => (h.alloc X).cells.1, fun X => (h.alloc X).cells.2.1, fun X => (h.alloc X).cells.2.2.1, fun X => (h.alloc X).cells.2.2.2.1, fun X => (h.alloc X).cells.2.2.2.2.1, fun X => (h.alloc X).cells.2.2.2.2.2.1, fun X => (h.alloc X).cells.2.2.2.2.2.2.1,
    fun X => (h.alloc X).cells.2.2.2.2.2.2.2.1, fun X => (h.alloc X).cells.2.2.2.2.2.2.2.2.1, fun X => (h.alloc X).cells.2.2.2.2.2.2.2.2.2.1, fun X => (h.alloc X).cells.2.2.2.2.2.2.2.2.2.2⟩
theorem NewC.es {B : Nat} {S : Nat → Prop} {W : World} {m : Con} (h : NewC B W m) (hS : ∀ k, (Value.slice m.ea m.es.length m.ec).ownBlock = some k → S k) : ES S W m.ea m.ec m.es 0 := by
  rcases h.row.2 with ⟨h1, h2⟩ | ⟨g, cap, cur, hv, hg, hr, hle, hcm, hsz, htk⟩
  · injection h1 with h3 h4 h5
    exact .inl ⟨h3, h2, h5⟩
  · injection hv with h3 h4 h5
    refine .inr ⟨g, cur, h3, hr, by rw [h5]; exact hsz, by omega, by omega, hS g (by rw [h3]; rfl), fun i hi _ => ?_⟩
    have h6 := eFlat_get m.es i 4 hi (by omega)
    rw [← htk, List.getElem?_take_of_lt (by omega), Array.getElem?_toList] at h6
    rw [h6]; rfl
theorem NewC.ws {B : Nat} {S : Nat → Prop} {W : World} {m : Con} (h : NewC B W m) : ∀ e ∈ m.es, WS S W e := fun e he => .inl (by rw [(h.ents e he).2.2]; rfl)
theorem MarkC.es' {B : Nat} {S : Nat → Prop} {W : World} {m : Con} (h : MarkC B W m) (hS : ∀ k, (Value.slice m.ea (m.es.length + 2) m.ec).ownBlock = some k → S k) : ES S W m.ea m.ec m.es 0 := by
  obtain ⟨g, cap, cur, hv, hg, hr, hle, hcm, hsz, htk⟩ := owns_cases h.row (by omega)
  injection hv with h3 h4 h5
  refine .inr ⟨g, cur, h3, hr, by rw [h5]; exact hsz, by omega, by omega, hS g (by rw [h3]; rfl), fun i hi _ => ?_⟩
  have h6 := eFlat_get (m.es ++ [mk73, mk74]) i 4 (by simp; omega) (by omega)
  rw [← htk, List.getElem?_take_of_lt (by omega), Array.getElem?_toList] at h6
  rw [h6, List.getElem_append_left hi]; rfl
theorem MarkC.ws {B : Nat} {S : Nat → Prop} {W : World} {m : Con} (h : MarkC B W m) (hS : ∀ e ∈ m.es, ∀ k, (Value.slice e.wa (e.ws.length + 2) e.wc).ownBlock = some k → S k) : ∀ e ∈ m.es, WS S W e := fun e he => by
  obtain ⟨g, cap, cur, hv, hg, hr, hle, hcm, hsz, htk⟩ := owns_cases (h.ents e he).row (by omega)
  injection hv with h3 h4 h5
  exact .inr ⟨g, cur, h3, hr, by omega, hS e he g (by rw [h3]; rfl), (h.ents e he).mx⟩
/-- Between the block numbers lo and hi. -/
def Rn (lo hi : Nat) (k : Nat) : Prop := lo ≤ k ∧ k < hi
theorem NewC.rn {B : Nat} {W : World} {m : Con} (h : NewC B W m) : ∀ k, (Value.slice m.ea m.es.length m.ec).ownBlock = some k → Rn B W.heap.size k := fun k hk => h.row.lt k hk
theorem MarkC.rn {B : Nat} {W : World} {m : Con} (h : MarkC B W m) : ∀ k, (Value.slice m.ea (m.es.length + 2) m.ec).ownBlock = some k → Rn B W.heap.size k := fun k hk => h.row.lt k hk
theorem MarkC.rnw {B : Nat} {W : World} {m : Con} (h : MarkC B W m) : ∀ e ∈ m.es, ∀ k, (Value.slice e.wa (e.ws.length + 2) e.wc).ownBlock = some k → Rn B W.heap.size k := fun e he k hk => (h.ents e he).row.lt k hk
theorem bare_d {e e' : Ent} (h : e.d = e'.d) : bareP e = bareP e' := by
  simp only [Ent.d, Prod.mk.injEq] at h
  obtain ⟨h1, h2, h3, h4, h5⟩ := h
  unfold bareP
  rw [h4, h5]
theorem termsV_d {c l : Con} (h : l.d = c.d) : termsV l = termsV c := by
  simp only [Con.d, Prod.mk.injEq] at h
  obtain ⟨⟨h1, h2, h3, h4, h5⟩, ⟨h6, h7, h8, h9, h10⟩, hes⟩ := h
  have ht : ∀ x : Con, termsV x = if x.kind = 1 ∧ x.to = x.by' then 234 else if x.kind ≠ 1 ∨ x.reserve ≠ 0 ∨ x.step ≠ 0 ∨ x.of' ≠ 0 ∨ itemP x.want = false ∨ x.price > maxS ∨ (x.want = 0 ∧ x.price = 0) then 200 else termsE x.by' x.want x.es := fun _ => rfl
  have : termsE c.by' c.want l.es = termsE c.by' c.want c.es := by
    rcases hl : l.es with _ | ⟨a, _ | ⟨a2, la⟩⟩ <;> rcases hc : c.es with _ | ⟨b, _ | ⟨b2, lb⟩⟩ <;> rw [hl, hc] at hes <;> simp at hes <;> try rfl
    have hb := bare_d hes
    simp only [Ent.d, Prod.mk.injEq] at hes
    obtain ⟨k1, k2, k3, k4, k5⟩ := hes
    simp only [termsE, hb, k1, k2, k3]
  rw [ht l, ht c, h2, h3, h5, h6, h7, h8, h9, h10, this]
theorem mirD_d {c l : Con} (h : l.d = c.d) : mirD l = mirD c := by
  unfold mirD
  rw [termsV_d h]
  simp only [Con.d, Prod.mk.injEq] at h
  obtain ⟨⟨h1, h2, h3, h4, h5⟩, ⟨h6, h7, h8, h9, h10⟩, hes⟩ := h
  rw [h1, h2, h3, h4, h5, h6, h7, h8, h9, h10]
  rcases hl : l.es with _ | ⟨a, la⟩ <;> rcases hc : c.es with _ | ⟨b, lb⟩ <;> rw [hl, hc] at hes <;> simp at hes <;> try rfl
  have hes := hes.1
  simp only [Ent.d, Prod.mk.injEq] at hes
  obtain ⟨k1, k2, k3, k4, k5⟩ := hes
  simp only [k2, k3]
end Go.Proofs.Ytiafhgcnjgpeaaa
