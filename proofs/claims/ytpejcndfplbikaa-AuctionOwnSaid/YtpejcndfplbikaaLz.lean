/-
  Layer 21: three contracts lent at once, each in memory of its own.
-/
import Derived.Test.YtpejcndfplbikaaLy
namespace Go.Proofs.Ytpejcndfplbikaa
open Go.RowKit Go.K
set_option linter.unusedVariables false
set_option linter.unusedSimpArgs false
/-- A contract lent, in a piece of memory of its own. -/
structure LentC (r : Nat × Nat) (c : Con) (W : World) (l : Con) : Prop where
  d : l.d = c.d
  mark : MarkC r.1 W l
  lo : ∀ k, (Value.slice l.ea (l.es.length + 2) l.ec).ownBlock = some k → r.1 ≤ k ∧ k < r.2
  lw : ∀ e ∈ l.es, ∀ k, (Value.slice e.wa (e.ws.length + 2) e.wc).ownBlock = some k → r.1 ≤ k ∧ k < r.2
theorem LentC.kept {r : Nat × Nat} {c l : Con} {W W' : World} (h : LentC r c W l) (hb : Below W.heap.size W W') : LentC r c W' l := ⟨h.d, h.mark.kept hb, h.lo, h.lw⟩
theorem lent_piece (c : Con) (w : World) (hc : ConOk w c) : Calls Try.prog 9 #[c.agg] w fun r w' => ∃ l, r = .returned (Con.agg l) ∧ LentC (w.heap.size, w'.heap.size) c w' l ∧ Below w.heap.size w w' :=
  (twin_any c w hc).mono fun r w' ⟨l, h1, h2, h3, h4⟩ => ⟨l, h1, ⟨h2, h3, fun k hk => h3.row.lt k hk, fun e he k hk => (h3.ents e he).row.lt k hk⟩, h4⟩
/-- An entry lent, in a piece of memory of its own. -/
structure LentE (r : Nat × Nat) (e : Ent) (W : World) (x : Ent) : Prop where
  d : x.d = e.d
  mark : MarkE r.1 W x
  lo : ∀ k, (Value.slice x.wa (x.ws.length + 2) x.wc).ownBlock = some k → r.1 ≤ k ∧ k < r.2
theorem LentE.kept {r : Nat × Nat} {e x : Ent} {W W' : World} (h : LentE r e W x) (hb : Below W.heap.size W W') : LentE r e W' x := ⟨h.d, h.mark.kept hb, h.lo⟩
theorem lentE_piece (e : Ent) (w : World) (he : EntOk w e) : Calls Try.prog 11 #[e.agg] w fun r w' => ∃ x, r = .returned (Ent.agg x) ∧ LentE (w.heap.size, w'.heap.size) e w' x ∧ Below w.heap.size w w' :=
  (lentEntry_any e w he).mono fun r w' ⟨x, h1, h2, h3, h4⟩ => ⟨x, h1, ⟨h2, h3, fun k hk => h3.row.lt k hk⟩, h4⟩
def ZB (W : World) (g : Nat) : Prop := W.heap[g]? = some (.cells #[.int .i64 0, .int .i64 0, .int .i64 0, .int .i64 0, .int .i64 0, .int .i64 0, .int .u64 0, .int .u64 0, .int .u64 0, .int .i64 0, .slice none 0 0] 25)
def F3 (c : Con) (i : Nat) (v : Value) (r : Nat × Nat) (W : World) : Prop :=
  if i = 0 ∨ i = 2 ∨ i = 4 then v = c.agg else if i = 1 ∨ i = 3 ∨ i = 5 then ∃ l, v = Con.agg l ∧ LentC r c W l else v = .pointer (some ⟨r.1, 0, none⟩) ∧ ZB W r.1 ∧ r.1 < r.2
theorem F3.mono (c : Con) (i : Nat) (v : Value) (r : Nat × Nat) (w w' : World) (h : F3 c i v r w) (hb : Below w.heap.size w w') : F3 c i v r w' := by
  unfold F3 at *
  split
  · rw [if_pos (by assumption)] at h; exact h
  · rw [if_neg (by assumption)] at h
    split
    · rw [if_pos (by assumption)] at h
      obtain ⟨l, h1, h2⟩ := h
      exact ⟨l, h1, h2.kept hb⟩
    · rw [if_neg (by assumption)] at h
      exact ⟨h.1, row_kept h.2.1 hb, h.2.2⟩
/-- What lies where behind 'a, b, d := lent(c), lent(c), lent(c)'. -/
structure Three (w0 : World) (c : Con) (W : World) (l1 l2 l3 : Con) (r1 r2 r3 : Nat × Nat) (g1 g2 g3 : Nat) : Prop where
  bel : Below w0.heap.size w0 W
  h1 : LentC r1 c W l1
  h2 : LentC r2 c W l2
  h3 : LentC r3 c W l3
  b1 : Box W g1 l1
  b2 : Box W g2 l2
  b3 : Box W g3 l3
theorem lend3 {Q : Exit → Act → World → Prop} {id : Nat} {o9 o10 o11 : Oper} {l : List Oper} {a0 : Act} {w0 : World} {t0 t1 t2 t3 t4 t5 t6 t7 t8 : TypeId} {p0 p1 p2 p3 p4 p5 p6 p7 p8 : String} {f0 f1 f2 f3 f4 f5 f6 f7 f8 : Array Edge} {s1 s3 s5 : Array TypeId}
    (hl : l = [{ dst := some 19, op := .load 25 (.tmp 2), type := t0, pos := p0, after := f0, guard := none }, { dst := some 20, op := .call { callee := .value (.func 9), args := #[.tmp 19], argTypes := s1 }, type := t1, pos := p1, after := f1, guard := none },
      { dst := some 21, op := .load 25 (.tmp 2), type := t2, pos := p2, after := f2, guard := none }, { dst := some 22, op := .call { callee := .value (.func 9), args := #[.tmp 21], argTypes := s3 }, type := t3, pos := p3, after := f3, guard := none },
      { dst := some 23, op := .load 25 (.tmp 2), type := t4, pos := p4, after := f4, guard := none }, { dst := some 24, op := .call { callee := .value (.func 9), args := #[.tmp 23], argTypes := s5 }, type := t5, pos := p5, after := f5, guard := none },
      { dst := some 5, op := .alloc 25, type := t6, pos := p6, after := f6, guard := none }, { dst := some 6, op := .alloc 25, type := t7, pos := p7, after := f7, guard := none }, { dst := some 7, op := .alloc 25, type := t8, pos := p8, after := f8, guard := none }, o9, o10, o11])
    (hF : stateB l.toArray 9 = true) (d1 : ∃ e ∈ f1, Region.binds .any e = true ∧ e.on = 0) (d3 : ∃ e ∈ f3, Region.binds .any e = true ∧ e.on = 2) (d5 : ∃ e ∈ f5, Region.binds .any e = true ∧ e.on = 4)
    (hsz : 24 < a0.tmps.size) (gc : Nat) (h2 : a0.eval (.tmp 2) = .pointer (some ⟨gc, 0, none⟩)) (c : Con) (hb : Box w0 gc c) (hc : ConOk w0 c)
    (hend : ∀ x R w, Pieces w0 (fun j => decide (j < 9)) R w → x 19 = c.agg → F3 c 1 (x 20) (R 1) w → x 21 = c.agg → F3 c 3 (x 22) (R 3) w → x 23 = c.agg → F3 c 5 (x 24) (R 5) w → F3 c 6 (x 5) (R 6) w → F3 c 7 (x 6) (R 7) w → F3 c 8 (x 7) (R 8) w →
      wpList Try.prog l.toArray Q [o9, o10, o11] (putsF a0 [19, 20, 21, 22, 23, 24, 5, 6, 7] x) w)
    (x0 : Nat → Value) (hx0 : a0 = putsF a0 [19, 20, 21, 22, 23, 24, 5, 6, 7] x0) : (Code.region id l.toArray true).wp Try.prog Q a0 w0 := by
  subst hl
  refine wp_region_items 9 (fun i => [19, 20, 21, 22, 23, 24, 5, 6, 7].getD i 0) [19, 20, 21, 22, 23, 24, 5, 6, 7] (F3 c) (by kernel_rfl) hF ?_ ?_ (F3.mono c) ?_ ?_ x0 hx0
  · intro i hi
    match i, hi with
    | 0, _ | 1, _ | 2, _ | 3, _ | 4, _ | 5, _ | 6, _ | 7, _ | 8, _ => simp
  · have H : ∀ i, i < 9 → ∀ j, j < 9 → [19, 20, 21, 22, 23, 24, 5, 6, 7].getD i 0 = [19, 20, 21, 22, 23, 24, 5, 6, 7].getD j 0 → i = j := by decide
    exact fun i j hi hj h => H i hi j hj h
  · intro i f x R w o hi hP hall ho hdep K hK
    have e2 : (putsF a0 [19, 20, 21, 22, 23, 24, 5, 6, 7] x).eval (.tmp 2) = .pointer (some ⟨gc, 0, none⟩) := by rw [putsF_eval _ _ _ 2 (by omega), if_neg (by decide)]; exact h2
    have hbox := hb.kept hP.bel
    have hcw := hc.kept hP.bel
    have hev : ∀ t : Nat, t ∈ [19, 20, 21, 22, 23, 24, 5, 6, 7] → t ≤ 24 → (putsF a0 [19, 20, 21, 22, 23, 24, 5, 6, 7] x).eval (.tmp t) = x t := fun t ht h => by rw [putsF_eval _ _ _ t (by omega), if_pos ht]
    have hload : ∀ s, F3 c 0 c.agg s w := fun s => by unfold F3; rw [if_pos (by decide)]
    have hcall : ∀ j s, (j = 1 ∨ j = 3 ∨ j = 5) → ∀ w' ll, LentC s c w' ll → F3 c j (Con.agg ll) s w' := fun j s hj w' ll h => by
      unfold F3; rw [if_neg (by omega), if_pos hj]; exact ⟨ll, rfl, h⟩
    have halloc : ∀ j, 6 ≤ j → F3 c j (.pointer (some ⟨w.heap.size, 0, none⟩)) (w.heap.size, (w.alloc (.cells #[.int .i64 0, .int .i64 0, .int .i64 0, .int .i64 0, .int .i64 0, .int .i64 0, .int .u64 0, .int .u64 0, .int .u64 0, .int .i64 0, .slice none 0 0] 25)).heap.size) (w.alloc (.cells #[.int .i64 0, .int .i64 0, .int .i64 0, .int .i64 0, .int .i64 0, .int .i64 0, .int .u64 0, .int .u64 0, .int .u64 0, .int .i64 0, .slice none 0 0] 25)) := fun j hj => by
      unfold F3; rw [if_neg (by omega), if_neg (by omega)]; exact ⟨rfl, alloc_at rfl, by simp⟩
    have hld : ∀ j, f j = true → (j = 0 ∨ j = 2 ∨ j = 4) → x ([19, 20, 21, 22, 23, 24, 5, 6, 7].getD j 0) = c.agg := fun j hf hj => by
      have h := hall j (by omega) hf
      unfold F3 at h; rw [if_pos hj] at h; exact h
    match i, hi with
    | 0, _ => exact op_load25 (.tmp 2) rfl e2 hbox szC (hK _ _ (Below.refl _ _) (by unfold F3; rw [if_pos (by decide)]; rfl))
    | 2, _ => exact op_load25 (.tmp 2) rfl e2 hbox szC (hK _ _ (Below.refl _ _) (by unfold F3; rw [if_pos (by decide)]; rfl))
    | 4, _ => exact op_load25 (.tmp 2) rfl e2 hbox szC (hK _ _ (Below.refl _ _) (by unfold F3; rw [if_pos (by decide)]; rfl))
    | 1, _ =>
      obtain ⟨e, he1, he2, he3⟩ := d1
      have hf := hdep e (by obtain rfl := Option.some.inj ho; exact he1) he2
      rw [he3] at hf
      exact op_call 9 19 c.agg s1 rfl enter9 (by rw [hev 19 (by decide) (by decide)]; exact hld 0 hf (.inl rfl)) ((lent_piece c w hcw).mono fun r w' ⟨ll, hr, hL, hbl⟩ => ⟨_, hr, hK _ _ hbl (hcall 1 _ (by decide) _ _ hL)⟩)
    | 3, _ =>
      obtain ⟨e, he1, he2, he3⟩ := d3
      have hf := hdep e (by obtain rfl := Option.some.inj ho; exact he1) he2
      rw [he3] at hf
      exact op_call 9 21 c.agg s3 rfl enter9 (by rw [hev 21 (by decide) (by decide)]; exact hld 2 hf (.inr (.inl rfl))) ((lent_piece c w hcw).mono fun r w' ⟨ll, hr, hL, hbl⟩ => ⟨_, hr, hK _ _ hbl (hcall 3 _ (by decide) _ _ hL)⟩)
    | 5, _ =>
      obtain ⟨e, he1, he2, he3⟩ := d5
      have hf := hdep e (by obtain rfl := Option.some.inj ho; exact he1) he2
      rw [he3] at hf
      exact op_call 9 23 c.agg s5 rfl enter9 (by rw [hev 23 (by decide) (by decide)]; exact hld 4 hf (.inr (.inr rfl))) ((lent_piece c w hcw).mono fun r w' ⟨ll, hr, hL, hbl⟩ => ⟨_, hr, hK _ _ hbl (hcall 5 _ (by decide) _ _ hL)⟩)
    | 6, _ => exact op_alloc25 rfl (hK _ _ ((Below.refl _ _).alloc (Nat.le_refl _) _) (halloc 6 (by decide)))
    | 7, _ => exact op_alloc25 rfl (hK _ _ ((Below.refl _ _).alloc (Nat.le_refl _) _) (halloc 7 (by decide)))
    | 8, _ => exact op_alloc25 rfl (hK _ _ ((Below.refl _ _).alloc (Nat.le_refl _) _) (halloc 8 (by decide)))
  · intro x R w hP hall
    have q : ∀ j, j < 9 → (j = 0 ∨ j = 2 ∨ j = 4) → x ([19, 20, 21, 22, 23, 24, 5, 6, 7].getD j 0) = c.agg := fun j hf hj => by
      have h := hall j hf
      unfold F3 at h; rw [if_pos hj] at h; exact h
    exact hend x R w hP (q 0 (by decide) (by decide)) (hall 1 (by decide)) (q 2 (by decide) (by decide)) (hall 3 (by decide)) (q 4 (by decide) (by decide)) (hall 5 (by decide)) (hall 6 (by decide)) (hall 7 (by decide)) (hall 8 (by decide))
end Go.Proofs.Ytpejcndfplbikaa
