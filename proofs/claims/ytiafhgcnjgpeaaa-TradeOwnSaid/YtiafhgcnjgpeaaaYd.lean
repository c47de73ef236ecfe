/-
  Layer 20: gifts in rows; what goes back says the same of contracts that show the same.
-/
import Derived.Test.YtiafhgcnjgpeaaaYc
import Derived.Test.YtiafhgcnjgpeaaaWh
namespace Go.Proofs.Ytiafhgcnjgpeaaa
open Go.RowKit Go.K
set_option linter.unusedVariables false
set_option linter.unusedSimpArgs false

theorem sl_owns {W : World} {B : Nat} {e : TypeId} {s n cap : Nat} {ad : Option Addr} {xs : List Value} (h : W.ownsRow B e s (.slice ad n cap) n xs) : Sl W ad xs := by
  obtain ⟨ad', cap', hv, _, hs, _⟩ := owns_slice h
  injection hv with h1
  rw [h1]; exact hs
theorem GS.of_owns {S : Nat → Prop} {W : World} {B n cap : Nat} {ad : Option Addr} {xs : List Value} (h : W.ownsRow B 56 3 (.slice ad n cap) n xs) (hS : ∀ k, (Value.slice ad n cap).ownBlock = some k → S k) : GS S W ad n := by
  rcases h.2 with ⟨_, h0⟩ | ⟨g, cap', cur, hv, hg, hr, hle, hcm, hsz, _⟩
  · exact .inl h0
  · injection hv with h1 h2 h3
    subst h1
    exact .inr ⟨g, cur, rfl, hr, by rw [hsz]; omega, hS g rfl⟩
theorem MarkC.only {B : Nat} {S : Nat → Prop} {W W' : World} {l : Con} (h : MarkC B W l) (ho : Only S W W') (hr : ∀ k, (Value.slice l.ea (l.es.length + 2) l.ec).ownBlock = some k → ¬ S k)
    (hw : ∀ e ∈ l.es, ∀ k, (Value.slice e.wa (e.ws.length + 2) e.wc).ownBlock = some k → ¬ S k) : MarkC B W' l := ⟨ho.owns h.row hr, fun e he => ⟨ho.owns (h.ents e he).row (hw e he), (h.ents e he).mx⟩, h.mx⟩
theorem gV_d {e e' : Ent} (h : e.d = e'.d) (t : Int) : gV e t = gV e' t := by
  simp only [Ent.d, Prod.mk.injEq] at h
  obtain ⟨h1, h2, h3, h4, h5⟩ := h
  unfold gV
  rw [h2, h3]
theorem backV_d : ∀ {l m : List Ent}, l.map Ent.d = m.map Ent.d → backV l = backV m
  | [], [], _ => rfl
  | [], _ :: _, h => by cases h
  | _ :: _, [], h => by cases h
  | a :: l, b :: m, h => by
    simp only [List.map_cons, List.cons.injEq] at h
    have ha : a.acc = b.acc := by have := h.1; simp only [Ent.d, Prod.mk.injEq] at this; exact this.1
    show gV a a.acc ++ backV l = gV b b.acc ++ backV m
    rw [gV_d h.1, ha, backV_d h.2]
theorem con_es {l c : Con} (h : l.d = c.d) : l.es.map Ent.d = c.es.map Ent.d := by
  simp only [Con.d, Prod.mk.injEq] at h
  exact h.2.2
/-- Two contracts in variables, cell by cell. -/
theorem two_cells {V : World} {g g' : Nat} {c l : Con} (h : Box V g c) (k : Box V g' l) : V.cell? ⟨g, 0, none⟩ = some (.int .i64 c.num) ∧ V.cell? ⟨g, 1, none⟩ = some (.int .i64 c.kind) ∧ V.cell? ⟨g, 2, none⟩ = some (.int .i64 c.by') ∧ V.cell? ⟨g, 3, none⟩ = some (.int .i64 c.dl) ∧ V.cell? ⟨g, 4, none⟩ = some (.int .i64 c.to) ∧ V.cell? ⟨g, 5, none⟩ = some (.int .i64 c.want) ∧ V.cell? ⟨g, 6, none⟩ = some (.int .u64 c.price) ∧ V.cell? ⟨g, 7, none⟩ = some (.int .u64 c.reserve) ∧ V.cell? ⟨g, 8, none⟩ = some (.int .u64 c.step) ∧ V.cell? ⟨g, 9, none⟩ = some (.int .i64 c.of') ∧ V.cell? ⟨g, 10, none⟩ = some (.slice c.ea c.es.length c.ec) ∧ V.cell? ⟨g', 0, none⟩ = some (.int .i64 l.num) ∧ V.cell? ⟨g', 1, none⟩ = some (.int .i64 l.kind) ∧ V.cell? ⟨g', 2, none⟩ = some (.int .i64 l.by') ∧ V.cell? ⟨g', 3, none⟩ = some (.int .i64 l.dl) ∧ V.cell? ⟨g', 4, none⟩ = some (.int .i64 l.to) ∧ V.cell? ⟨g', 5, none⟩ = some (.int .i64 l.want) ∧ V.cell? ⟨g', 6, none⟩ = some (.int .u64 l.price) ∧ V.cell? ⟨g', 7, none⟩ = some (.int .u64 l.reserve) ∧ V.cell? ⟨g', 8, none⟩ = some (.int .u64 l.step) ∧ V.cell? ⟨g', 9, none⟩ = some (.int .i64 l.of') ∧ V.cell? ⟨g', 10, none⟩ = some (.slice l.ea l.es.length l.ec) := by
  obtain ⟨p0, p1, p2, p3, p4, p5, p6, p7, p8, p9, p10⟩ := h.cells
  exact ⟨p0, p1, p2, p3, p4, p5, p6, p7, p8, p9, p10, k.cells⟩
theorem two_drew {V : World} {g g' : Nat} {c l : Con} (h : Box V g c) (k : Box V g' l) : V.drew.cell? ⟨g, 0, none⟩ = some (.int .i64 c.num) ∧ V.drew.cell? ⟨g, 1, none⟩ = some (.int .i64 c.kind) ∧ V.drew.cell? ⟨g, 2, none⟩ = some (.int .i64 c.by') ∧ V.drew.cell? ⟨g, 3, none⟩ = some (.int .i64 c.dl) ∧ V.drew.cell? ⟨g, 4, none⟩ = some (.int .i64 c.to) ∧ V.drew.cell? ⟨g, 5, none⟩ = some (.int .i64 c.want) ∧ V.drew.cell? ⟨g, 6, none⟩ = some (.int .u64 c.price) ∧ V.drew.cell? ⟨g, 7, none⟩ = some (.int .u64 c.reserve) ∧ V.drew.cell? ⟨g, 8, none⟩ = some (.int .u64 c.step) ∧ V.drew.cell? ⟨g, 9, none⟩ = some (.int .i64 c.of') ∧ V.drew.cell? ⟨g, 10, none⟩ = some (.slice c.ea c.es.length c.ec) ∧ V.drew.cell? ⟨g', 0, none⟩ = some (.int .i64 l.num) ∧ V.drew.cell? ⟨g', 1, none⟩ = some (.int .i64 l.kind) ∧ V.drew.cell? ⟨g', 2, none⟩ = some (.int .i64 l.by') ∧ V.drew.cell? ⟨g', 3, none⟩ = some (.int .i64 l.dl) ∧ V.drew.cell? ⟨g', 4, none⟩ = some (.int .i64 l.to) ∧ V.drew.cell? ⟨g', 5, none⟩ = some (.int .i64 l.want) ∧ V.drew.cell? ⟨g', 6, none⟩ = some (.int .u64 l.price) ∧ V.drew.cell? ⟨g', 7, none⟩ = some (.int .u64 l.reserve) ∧ V.drew.cell? ⟨g', 8, none⟩ = some (.int .u64 l.step) ∧ V.drew.cell? ⟨g', 9, none⟩ = some (.int .i64 l.of') ∧ V.drew.cell? ⟨g', 10, none⟩ = some (.slice l.ea l.es.length l.ec) := two_cells (V := V.drew) h k
end Go.Proofs.Ytiafhgcnjgpeaaa
