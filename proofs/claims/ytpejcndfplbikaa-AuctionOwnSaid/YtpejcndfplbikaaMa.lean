/-
  Layer 21: a contract and an entry lent at once.
-/
import Derived.Test.YtpejcndfplbikaaLz
namespace Go.Proofs.Ytpejcndfplbikaa
open Go.RowKit Go.K
set_option linter.unusedVariables false
set_option linter.unusedSimpArgs false
def BoxE (W : World) (g : Nat) (x : Ent) : Prop := W.heap[g]? = some (.cells #[.int .i64 x.acc, .int .i64 x.item, .int .u64 x.coins, .int .u64 x.price, .slice x.wa x.ws.length x.wc] 33)
def F2 (c : Con) (e : Ent) (i : Nat) (v : Value) (r : Nat × Nat) (W : World) : Prop :=
  match i with
  | 0 => v = c.agg
  | 1 => ∃ l, v = Con.agg l ∧ LentC r c W l
  | 2 => v = e.agg
  | 3 => ∃ x, v = Ent.agg x ∧ LentE r e W x
  | 4 => v = .pointer (some ⟨r.1, 0, none⟩) ∧ ZB W r.1 ∧ r.1 < r.2
  | 5 => v = .pointer (some ⟨r.1, 0, none⟩) ∧ W.heap[r.1]? = some (.cells #[.int .i64 0, .int .i64 0, .int .u64 0, .int .u64 0, .slice none 0 0] 33) ∧ r.1 < r.2
  | _ => True
theorem F2.mono (c : Con) (e : Ent) (i : Nat) (v : Value) (r : Nat × Nat) (w w' : World) (h : F2 c e i v r w) (hb : Below w.heap.size w w') : F2 c e i v r w' := by
  match i, h with
  | 0, h => exact h
  | 1, ⟨l, h1, h2⟩ => exact ⟨l, h1, h2.kept hb⟩
  | 2, h => exact h
  | 3, ⟨l, h1, h2⟩ => exact ⟨l, h1, h2.kept hb⟩
  | 4, h => exact ⟨h.1, row_kept h.2.1 hb, h.2.2⟩
  | 5, h => exact ⟨h.1, row_kept h.2.1 hb, h.2.2⟩
  | _ + 6, _ => exact trivial
theorem lend2 {Q : Exit → Act → World → Prop} {id : Nat} {o6 o7 : Oper} {l : List Oper} {a0 : Act} {w0 : World} {t0 t1 t2 t3 t4 t5 : TypeId} {p0 p1 p2 p3 p4 p5 : String} {f0 f1 f2 f3 f4 f5 : Array Edge} {s1 s3 : Array TypeId}
    (hl : l = [{ dst := some 63, op := .load 25 (.tmp 2), type := t0, pos := p0, after := f0, guard := none }, { dst := some 64, op := .call { callee := .value (.func 9), args := #[.tmp 63], argTypes := s1 }, type := t1, pos := p1, after := f1, guard := none },
      { dst := some 65, op := .load 33 (.tmp 3), type := t2, pos := p2, after := f2, guard := none }, { dst := some 66, op := .call { callee := .value (.func 11), args := #[.tmp 65], argTypes := s3 }, type := t3, pos := p3, after := f3, guard := none },
      { dst := some 8, op := .alloc 25, type := t4, pos := p4, after := f4, guard := none }, { dst := some 9, op := .alloc 33, type := t5, pos := p5, after := f5, guard := none }, o6, o7])
    (hF : stateB l.toArray 6 = true) (d1 : ∃ e ∈ f1, Region.binds .any e = true ∧ e.on = 0) (d3 : ∃ e ∈ f3, Region.binds .any e = true ∧ e.on = 2)
    (hsz : 66 < a0.tmps.size) (gc ge : Nat) (h2 : a0.eval (.tmp 2) = .pointer (some ⟨gc, 0, none⟩)) (h3 : a0.eval (.tmp 3) = .pointer (some ⟨ge, 0, none⟩)) (c : Con) (x1 : Ent) (hb : Box w0 gc c) (hbe : BoxE w0 ge x1) (hc : ConOk w0 c) (he : EntOk w0 x1)
    (hend : ∀ x R w, Pieces w0 (fun j => decide (j < 6)) R w → x 63 = c.agg → F2 c x1 1 (x 64) (R 1) w → x 65 = x1.agg → F2 c x1 3 (x 66) (R 3) w → F2 c x1 4 (x 8) (R 4) w → F2 c x1 5 (x 9) (R 5) w →
      wpList Try.prog l.toArray Q [o6, o7] (putsF a0 [63, 64, 65, 66, 8, 9] x) w)
    (x0 : Nat → Value) (hx0 : a0 = putsF a0 [63, 64, 65, 66, 8, 9] x0) : (Code.region id l.toArray true).wp Try.prog Q a0 w0 := by
  subst hl
  refine wp_region_items 6 (fun i => [63, 64, 65, 66, 8, 9].getD i 0) [63, 64, 65, 66, 8, 9] (F2 c x1) (by kernel_rfl) hF ?_ ?_ (F2.mono c x1) ?_ ?_ x0 hx0
  · intro i hi
    match i, hi with
    | 0, _ | 1, _ | 2, _ | 3, _ | 4, _ | 5, _ => simp
  · have H : ∀ i, i < 6 → ∀ j, j < 6 → [63, 64, 65, 66, 8, 9].getD i 0 = [63, 64, 65, 66, 8, 9].getD j 0 → i = j := by decide
    exact fun i j hi hj h => H i hi j hj h
  · intro i f x R w o hi hP hall ho hdep K hK
    have e2 : (putsF a0 [63, 64, 65, 66, 8, 9] x).eval (.tmp 2) = .pointer (some ⟨gc, 0, none⟩) := by rw [putsF_eval _ _ _ 2 (by omega), if_neg (by decide)]; exact h2
    have e3 : (putsF a0 [63, 64, 65, 66, 8, 9] x).eval (.tmp 3) = .pointer (some ⟨ge, 0, none⟩) := by rw [putsF_eval _ _ _ 3 (by omega), if_neg (by decide)]; exact h3
    have hbox := hb.kept hP.bel
    have hboxe := row_kept hbe hP.bel
    have hcw := hc.kept hP.bel
    have hew := he.kept hP.bel
    have hev : ∀ t : Nat, t ∈ [63, 64, 65, 66, 8, 9] → t ≤ 66 → (putsF a0 [63, 64, 65, 66, 8, 9] x).eval (.tmp t) = x t := fun t ht h => by rw [putsF_eval _ _ _ t (by omega), if_pos ht]
    match i, hi with
    | 0, _ => exact op_load25 (.tmp 2) rfl e2 hbox szC (hK _ _ (Below.refl _ _) rfl)
    | 2, _ => exact op_load33 (.tmp 3) rfl e3 hboxe szE (hK _ _ (Below.refl _ _) rfl)
    | 1, _ =>
      obtain ⟨e, he1, he2, he3⟩ := d1
      have hf := hdep e (by obtain rfl := Option.some.inj ho; exact he1) he2
      rw [he3] at hf
      exact op_call 9 63 c.agg s1 rfl enter9 (by rw [hev 63 (by decide) (by decide)]; exact hall 0 (by decide) hf) ((lent_piece c w hcw).mono fun r w' ⟨ll, hr, hL, hbl⟩ => ⟨_, hr, hK _ _ hbl ⟨ll, rfl, hL⟩⟩)
    | 3, _ =>
      obtain ⟨e, he1, he2, he3⟩ := d3
      have hf := hdep e (by obtain rfl := Option.some.inj ho; exact he1) he2
      rw [he3] at hf
      exact op_call 11 65 x1.agg s3 rfl enter11 (by rw [hev 65 (by decide) (by decide)]; exact hall 2 (by decide) hf) ((lentE_piece x1 w hew).mono fun r w' ⟨ll, hr, hL, hbl⟩ => ⟨_, hr, hK _ _ hbl ⟨ll, rfl, hL⟩⟩)
    | 4, _ => exact op_alloc25 rfl (hK _ _ ((Below.refl _ _).alloc (Nat.le_refl _) _) ⟨rfl, alloc_at rfl, by simp⟩)
    | 5, _ => exact op_alloc33 rfl (hK _ _ ((Below.refl _ _).alloc (Nat.le_refl _) _) ⟨rfl, alloc_at rfl, by simp⟩)
  · intro x R w hP hall
    exact hend x R w hP (hall 0 (by decide)) (hall 1 (by decide)) (hall 2 (by decide)) (hall 3 (by decide)) (hall 4 (by decide)) (hall 5 (by decide))
end Go.Proofs.Ytpejcndfplbikaa
