/-
  Layer 20: what Join answers, said of contracts and entries that show the same.
-/
import Derived.Test.YtiafhgcnjgpeaaaWm
import Derived.Test.YtiafhgcnjgpeaaaXh
namespace Go.Proofs.Ytiafhgcnjgpeaaa
open Go.RowKit Go.K
set_option linter.unusedVariables false
set_option linter.unusedSimpArgs false

theorem EBox.cellsA {W : World} {g : Nat} {e : Ent} (h : EBox W g e) : (∀ X, (W.alloc X).cell? ⟨g, 0, none⟩ = some (.int .i64 e.acc)) ∧ (∀ X, (W.alloc X).cell? ⟨g, 1, none⟩ = some (.int .i64 e.item)) ∧ (∀ X, (W.alloc X).cell? ⟨g, 2, none⟩ = some (.int .u64 e.coins)) ∧
    (∀ X, (W.alloc X).cell? ⟨g, 3, none⟩ = some (.int .u64 e.price)) ∧ (∀ X, (W.alloc X).cell? ⟨g, 4, none⟩ = some (.slice e.wa e.ws.length e.wc)) :=
  ⟨fun X => (h.alloc X).cells.1, fun X => (h.alloc X).cells.2.1, fun X => (h.alloc X).cells.2.2.1, fun X => (h.alloc X).cells.2.2.2.1, fun X => (h.alloc X).cells.2.2.2.2⟩
theorem joinV_same {l c : Con} {f e : Ent} (h : l.d = c.d) (k : f.d = e.d) : joinV l f = joinV c e := by
  have ht := termsV_d h
  have hb := bare_d k
  simp only [Con.d, Prod.mk.injEq] at h
  simp only [Ent.d, Prod.mk.injEq] at k
  obtain ⟨⟨h1, h2, h3, h4, h5⟩, ⟨h6, h7, h8, h9, h10⟩, hes⟩ := h
  obtain ⟨k1, k2, k3, k4, k5⟩ := k
  unfold joinV
  rw [ht, hb, h3, h5, h6, h7, k1, k2, k3]
theorem less_d {l c : Con} (h : l.d = c.d) : l.less.d = c.less.d := by
  simp only [Con.d, Prod.mk.injEq] at h
  obtain ⟨⟨h1, h2, h3, h4, h5⟩, ⟨h6, h7, h8, h9, h10⟩, hes⟩ := h
  simp only [Con.less, Con.d, h1, h2, h3, h4, h5, h6, h7, h8, h9, h10]
theorem joinC_d {l c : Con} {f e : Ent} (h : l.d = c.d) (k : f.d = e.d) : (joinC l f).d = (joinC c e).d := by
  unfold joinC
  rw [joinV_same h k]
  split
  · exact less_d h
  · rfl
theorem giveV_d (T : Int) : ∀ {l m : List Ent}, l.map Ent.d = m.map Ent.d → giveV T l = giveV T m
  | [], [], _ => rfl
  | [], _ :: _, h => by cases h
  | _ :: _, [], h => by cases h
  | a :: l, b :: m, h => by
    simp only [List.map_cons, List.cons.injEq] at h
    show gV a T ++ giveV T l = gV b T ++ giveV T m
    rw [gV_d h.1, giveV_d T h.2]
theorem joinG_d {l c : Con} {f e : Ent} (h : l.d = c.d) (k : f.d = e.d) : joinG l f = joinG c e := by
  have he := con_es h
  unfold joinG
  rw [joinV_same h k]
  simp only [Con.d, Prod.mk.injEq] at h
  obtain ⟨⟨h1, h2, h3, h4, h5⟩, ⟨h6, h7, h8, h9, h10⟩, hes⟩ := h
  rw [giveV_d l.to he, gV_d k, h3, h5]
/-- A contract without entries. -/
def Bare (m : Con) : Prop := m.ea = none ∧ m.ec = 0 ∧ m.es = []
theorem Bare.newC {m : Con} (h : Bare m) (B : Nat) (W : World) : NewC B W m := by
  obtain ⟨n, k, b, d, t, wn, p, r, s, o, ea, ec, es⟩ := m
  obtain ⟨h1, h2, h3⟩ := h
  simp only at h1 h2 h3
  subst h1 h2 h3
  exact ⟨World.ownsRow_nil _ _ _ _, fun _ => ⟨rfl, rfl⟩, (fun e he => by cases he), Nat.zero_le _, rfl⟩
theorem joinC_bare (c : Con) (e : Ent) : Bare (joinC c e) := by
  unfold joinC
  split
  · exact ⟨rfl, rfl, rfl⟩
  · exact ⟨rfl, rfl, rfl⟩
/-- What Join answers, of what shows the same. -/
def JoinsAs (c : Con) (e : Ent) (w : World) (r : Ending) (w' : World) : Prop := ∃ (m : Con) (ad : Option Addr) (cap : Nat), r = .returned (.tuple #[m.agg, .slice ad (joinG c e).length (joinG c e).length, .bool (decide (joinV c e = 0)), .int .i64 (joinV c e)]) ∧
  m.d = (joinC c e).d ∧ Bare m ∧ w'.ownsRow w.heap.size 56 3 (.slice ad (joinG c e).length cap) (joinG c e).length (gFlat (joinG c e)) ∧ (ad = none → (joinG c e).length = 0 ∧ cap = 0) ∧ Below w.heap.size w w'
theorem join_at (l c : Con) (f e : Ent) (w : World) (hl : ConOk w l) (hf : EntOk w f) (h : l.d = c.d) (k : f.d = e.d) : Calls Try.prog 26 #[l.agg, f.agg] w (JoinsAs c e w) := by
  refine (join_any l f w hl hf).mono ?_
  rintro r w' ⟨ad, cap, hr, ho, hn, hb⟩
  rw [joinG_d h k, joinV_same h k] at hr
  rw [joinG_d h k] at ho hn
  exact ⟨_, ad, cap, hr, joinC_d h k, joinC_bare l f, ho, hn, hb⟩
def RJoinsAs (c : Con) (e : Ent) (w : World) (r : Ending) (w' : World) : Prop := ∃ (m : Con) (ad : Option Addr) (cap : Nat), r = .returned (.tuple #[m.agg, .slice ad (joinG c e).length cap, .bool (decide (joinV c e = 0)), .int .i64 (joinV c e)]) ∧
  m.d = (joinC c e).d ∧ Bare m ∧ w'.ownsRow w.heap.size 56 3 (.slice ad (joinG c e).length cap) (joinG c e).length (gFlat (joinG c e)) ∧ Below w.heap.size w w'
theorem rjoin_at (c : Con) (e : Ent) (w : World) (hl : ConOk w c) (hf : EntOk w e) : Calls Try.prog 27 #[c.agg, e.agg] w (RJoinsAs c e w) := by
  refine (rjoin_any c e w hl hf).mono ?_
  rintro r w' ⟨v, hr, ho, hb⟩
  obtain ⟨ad, cap, rfl, _, _, _⟩ := owns_slice ho
  exact ⟨_, ad, cap, hr, rfl, joinC_bare c e, ho, hb⟩
end Go.Proofs.Ytiafhgcnjgpeaaa
