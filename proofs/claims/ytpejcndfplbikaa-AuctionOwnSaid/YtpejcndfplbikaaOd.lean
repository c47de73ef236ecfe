/-
  Layer 21: the regions 'd, out, over, f := Join(lent(c), lentEntry(e))'.
-/
import Derived.Test.YtpejcndfplbikaaMg
namespace Go.Proofs.Ytpejcndfplbikaa
open Go.RowKit Go.K
set_option linter.unusedVariables false
set_option linter.unusedSimpArgs false
def F5 (B : Nat) (L c : Con) (bv kv pv : Value) (e : Ent) (s : Bool) (i : Nat) (x : Nat → Value) (W : World) : Prop :=
  match i with
  | 0 => x 46 = L.agg
  | 1 => s = true ∨ ∃ y, x 47 = Con.agg y ∧ ConOk W y ∧ y.d = c.d
  | 2 => x 48 = e.agg
  | 3 => s = true ∨ ∃ y, x 49 = Ent.agg y ∧ EntOk W y ∧ y.d = e.d
  | 4 => s = true ∨ JT B c e (x 50) W
  | 5 => JT B c e (x 45) W
  | 6 => s = true ∨ PD B c e (x 51) W
  | 7 => PG B c e (x 52) W
  | 8 => x 53 = .bool false
  | 9 => x 54 = .int .i64 (c.joinV' e)
  | 10 => ∃ gm, B ≤ gm ∧ x 8 = .pointer (some ⟨gm, 0, none⟩) ∧ (s = true ∨ ZB W gm)
  | 11 => ∃ gm d, B ≤ gm ∧ x 8 = .pointer (some ⟨gm, 0, none⟩) ∧ Box W gm d ∧ NewC B W d ∧ d.d = joinDs c e
  | 12 => PG B c e (x 9) W
  | 13 => x 10 = .bool false
  | 14 => x 11 = .int .i64 (c.joinV' e)
  | _ => True
theorem F5.mono {B : Nat} {L c : Con} {bv kv pv : Value} {e : Ent} {s : Bool} {i : Nat} {x x' : Nat → Value} {w w' : World} (h : F5 B L c bv kv pv e s i x w) (hx : x' ([46, 47, 48, 49, 50, 45, 51, 52, 53, 54, 8, 8, 9, 10, 11].getD i 0) = x ([46, 47, 48, 49, 50, 45, 51, 52, 53, 54, 8, 8, 9, 10, 11].getD i 0)) (hb : Below w.heap.size w w') : F5 B L c bv kv pv e s i x' w' := by
  match i, h, hx with
  | 0, h, hx => exact hx.trans h
  | 1, h, hx => exact h.imp id (fun ⟨y, h1, h2, h3⟩ => ⟨y, hx.trans h1, h2.kept hb, h3⟩)
  | 2, h, hx => exact hx.trans h
  | 3, h, hx => exact h.imp id (fun ⟨y, h1, h2, h3⟩ => ⟨y, hx.trans h1, h2.kept hb, h3⟩)
  | 4, h, hx => exact h.imp id (fun h => by rw [show x' 50 = x 50 from hx]; exact JT.kept h hb)
  | 5, h, hx => show JT B c e (x' 45) w'; rw [show x' 45 = x 45 from hx]; exact JT.kept h hb
  | 6, h, hx => exact h.imp id (fun h => by rw [show x' 51 = x 51 from hx]; exact PD.kept h hb)
  | 7, h, hx => show PG B c e (x' 52) w'; rw [show x' 52 = x 52 from hx]; exact PG.kept h hb
  | 8, h, hx => exact hx.trans h
  | 9, h, hx => exact hx.trans h
  | 10, h, hx => obtain ⟨gm, h1, h2, h3⟩ := h; exact ⟨gm, h1, hx.trans h2, h3.imp id (fun h => row_kept h hb)⟩
  | 11, h, hx => obtain ⟨gm, d, h1, h2, h3, h4, h5⟩ := h; exact ⟨gm, d, h1, hx.trans h2, h3.kept hb, h4.kept hb, h5⟩
  | 12, h, hx => show PG B c e (x' 9) w'; rw [show x' 9 = x 9 from hx]; exact PG.kept h hb
  | 13, h, hx => exact hx.trans h
  | 14, h, hx => exact hx.trans h
  | _ + 15, _, _ => exact trivial
theorem F5.put {B : Nat} {L c : Con} {bv kv pv : Value} {e : Ent} {i : Nat} {x : Nat → Value} {w w' : World} {g : Nat} {ob : Obj} (h : F5 B L c bv kv pv e false i x w) (hz : ZB w g) (hp : Put w g ob w') (hi : i ≠ 11) : F5 B L c bv kv pv e true i x w' := by
  match i, h with
  | 0, h => exact h
  | 1, h => exact .inl rfl
  | 2, h => exact h
  | 3, h => exact .inl rfl
  | 4, h => exact .inl rfl
  | 5, h => obtain ⟨d, ad, cap, h1, h2, h3, h4⟩ := h; exact ⟨d, ad, cap, h1, NewC.putB h2 hp hz, h3.kept hp.grown (.inr (own_ne_box h3 hz (by decide))), h4⟩
  | 6, h => exact .inl rfl
  | 7, h => obtain ⟨ad, cap, h1, h2⟩ := h; exact ⟨ad, cap, h1, h2.kept hp.grown (.inr (own_ne_box h2 hz (by decide)))⟩
  | 8, h => exact h
  | 9, h => exact h
  | 10, h => obtain ⟨gm, h1, h2, h3⟩ := h; exact ⟨gm, h1, h2, .inl rfl⟩
  | 11, h => exact absurd rfl hi
  | 12, h => obtain ⟨ad, cap, h1, h2⟩ := h; exact ⟨ad, cap, h1, h2.kept hp.grown (.inr (own_ne_box h2 hz (by decide)))⟩
  | 13, h => exact h
  | 14, h => exact h
  | _ + 15, _ => exact trivial
theorem jreg5 {Q : Exit → Act → World → Prop} {id : Nat} {l : List Oper} {a0 : Act} {w0 : World} {t0 t1 t2 t3 t4 t5 t6 t7 t8 t9 t10 t11 t12 t13 t14 : TypeId} {p0 p1 p2 p3 p4 p5 p6 p7 p8 p9 p10 p11 p12 p13 p14 : String} {f0 f1 f2 f3 f4 f5 f6 f7 f8 f9 f10 f11 f12 f13 f14 : Array Edge} {s1 s3 s4 : Array TypeId}
    (hl : l = [{ dst := some 46, op := .load 25 (.tmp 2), type := t0, pos := p0, after := f0, guard := none },
      { dst := some 47, op := .call { callee := .value (.func 9), args := #[.tmp 46], argTypes := s1 }, type := t1, pos := p1, after := f1, guard := none },
      { dst := some 48, op := .load 33 (.tmp 3), type := t2, pos := p2, after := f2, guard := none },
      { dst := some 49, op := .call { callee := .value (.func 11), args := #[.tmp 48], argTypes := s3 }, type := t3, pos := p3, after := f3, guard := none },
      { dst := some 50, op := .call { callee := .value (.func 10), args := #[.tmp 47, .tmp 49], argTypes := s4 }, type := t4, pos := p4, after := f4, guard := none },
      { dst := some 45, op := .move (.tmp 50), type := t5, pos := p5, after := f5, guard := none },
      { dst := some 51, op := .extract (.tmp 45) 0, type := t6, pos := p6, after := f6, guard := none },
      { dst := some 52, op := .extract (.tmp 45) 1, type := t7, pos := p7, after := f7, guard := none },
      { dst := some 53, op := .extract (.tmp 45) 2, type := t8, pos := p8, after := f8, guard := none },
      { dst := some 54, op := .extract (.tmp 45) 3, type := t9, pos := p9, after := f9, guard := none },
      { dst := some 8, op := .alloc 25, type := t10, pos := p10, after := f10, guard := none },
      { dst := none, op := .store 25 (.tmp 8) (.tmp 51), type := t11, pos := p11, after := f11, guard := none },
      { dst := some 9, op := .assign (.tmp 52), type := t12, pos := p12, after := f12, guard := none },
      { dst := some 10, op := .assign (.tmp 53), type := t13, pos := p13, after := f13, guard := none },
      { dst := some 11, op := .assign (.tmp 54), type := t14, pos := p14, after := f14, guard := none }])
    (hF : stateB l.toArray 15 = true) (hD : depB l [(1, 0), (3, 2), (4, 1), (4, 3), (5, 4), (6, 5), (7, 5), (8, 5), (9, 5), (11, 10), (11, 6), (12, 7), (13, 8), (14, 9), (11, 0), (11, 1), (11, 2), (11, 3), (11, 4), (11, 5)] = true)
    (hsz : 54 < a0.tmps.size)
    (gb : Nat) (hbx : a0.eval (.tmp 2) = .pointer (some ⟨gb, 0, none⟩)) (L c : Con) (hbox : Box w0 gb L) (hL : ConOk w0 L) (hLd : L.d = c.d)
    (ge : Nat) (hbe : a0.eval (.tmp 3) = .pointer (some ⟨ge, 0, none⟩)) (e : Ent) (hboxe : BoxE w0 ge e) (hE : EntOk w0 e)
    (hend : ∀ x w gm d ad cap, Below w0.heap.size w0 w → w0.heap.size ≤ gm → x 8 = .pointer (some ⟨gm, 0, none⟩) → Box w gm d → NewC w0.heap.size w d → d.d = joinDs c e → x 9 = .slice ad (joinGs c e).length cap →
      w.ownsRow w0.heap.size 64 3 (.slice ad (joinGs c e).length cap) (joinGs c e).length (gFlat (joinGs c e)) → x 10 = .bool false → x 11 = .int .i64 (c.joinV' e) → wpList Try.prog l.toArray Q [] (putsF a0 [46, 47, 48, 49, 50, 45, 51, 52, 53, 54, 8, 9, 10, 11] x) w)
    : (Code.region id l.toArray true).wp Try.prog Q a0 w0 := by
  subst hl
  refine wp_region_state 15 (fun f a w => ∃ x, a = putsF a0 [46, 47, 48, 49, 50, 45, 51, 52, 53, 54, 8, 9, 10, 11] x ∧ Below w0.heap.size w0 w ∧ (f 11 = true → ∀ j, j ∈ [0, 1, 2, 3, 4, 5, 6, 10] → f j = true) ∧ ∀ i, i < 15 → f i = true → F5 w0.heap.size L c undef undef undef e (f 11) i x w) (by kernel_rfl) hF
    ⟨_, putsF_self _ [46, 47, 48, 49, 50, 45, 51, 52, 53, 54, 8, 9, 10, 11], (Qt.drewN w0 1).below _, (fun h => Bool.noConfusion h), fun i _ h => Bool.noConfusion h⟩ ?_ ?_
  · rintro f a w i o ⟨x, rfl, hbel, hcl, hall⟩ ho hip hfi hdep
    have e2 : (putsF a0 [46, 47, 48, 49, 50, 45, 51, 52, 53, 54, 8, 9, 10, 11] x).eval (.tmp 2) = a0.eval (.tmp 2) := by rw [putsF_eval _ _ _ 2 (by omega), if_neg (by decide)]
    have e3 : (putsF a0 [46, 47, 48, 49, 50, 45, 51, 52, 53, 54, 8, 9, 10, 11] x).eval (.tmp 3) = a0.eval (.tmp 3) := by rw [putsF_eval _ _ _ 3 (by omega), if_neg (by decide)]
    have hev : ∀ t : Nat, t ∈ [46, 47, 48, 49, 50, 45, 51, 52, 53, 54, 8, 9, 10, 11] → t ≤ 54 → (putsF a0 [46, 47, 48, 49, 50, 45, 51, 52, 53, 54, 8, 9, 10, 11] x).eval (.tmp t) = x t := fun t ht h => by rw [putsF_eval _ _ _ t (by omega), if_pos ht]
    have hLw := hL.kept hbel
    have hg := hbel.size
    have hEw := hE.kept hbel
    have hK : ∀ (v : Value) (w' : World), i ≠ 11 → Below w.heap.size w w' → F5 w0.heap.size L c undef undef undef e (f 11) i (upd x ([46, 47, 48, 49, 50, 45, 51, 52, 53, 54, 8, 8, 9, 10, 11].getD i 0) v) w' → (fun a' w' => ∃ x, a' = putsF a0 [46, 47, 48, 49, 50, 45, 51, 52, 53, 54, 8, 9, 10, 11] x ∧ Below w0.heap.size w0 w' ∧ ((if 11 = i then true else f 11) = true → ∀ j, j ∈ [0, 1, 2, 3, 4, 5, 6, 10] → (if j = i then true else f j) = true) ∧ ∀ j, j < 15 → (if j = i then true else f j) = true → F5 w0.heap.size L c undef undef undef e (if 11 = i then true else f 11) j x w') ((putsF a0 [46, 47, 48, 49, 50, 45, 51, 52, 53, 54, 8, 9, 10, 11] x).put (some ([46, 47, 48, 49, 50, 45, 51, 52, 53, 54, 8, 8, 9, 10, 11].getD i 0)) v) w' := by
      intro v w' hi hb hF
      have hmem : ∀ i, i < 15 → [46, 47, 48, 49, 50, 45, 51, 52, 53, 54, 8, 8, 9, 10, 11].getD i 0 ∈ [46, 47, 48, 49, 50, 45, 51, 52, 53, 54, 8, 9, 10, 11] := by decide
      have hinj : ∀ i, i < 15 → ∀ j, j < 15 → (i = 11 ∨ j = i ∨ (j = 11 ∧ i = 10)) ∨ [46, 47, 48, 49, 50, 45, 51, 52, 53, 54, 8, 8, 9, 10, 11].getD j 0 ≠ [46, 47, 48, 49, 50, 45, 51, 52, 53, 54, 8, 8, 9, 10, 11].getD i 0 := by decide
      rw [if_neg (fun h => hi h.symm)]
      refine ⟨upd x ([46, 47, 48, 49, 50, 45, 51, 52, 53, 54, 8, 8, 9, 10, 11].getD i 0) v, putsF_put _ _ _ _ _ (hmem i hip), hbel.trans (hb.mono hg), (fun h j hj => ?_), fun j hj hfj => ?_⟩
      · split
        · rfl
        · exact hcl h j hj
      · by_cases e : j = i
        · subst e; exact hF
        · rw [if_neg e] at hfj
          refine F5.mono (hall j hj hfj) ?_ hb
          have hne := (hinj i hip j hj).resolve_left (fun hc => by rcases hc with hc | hc | ⟨e1, e2⟩; exact hi hc; exact e hc; subst e1 e2; rw [hcl hfj 10 (by decide)] at hfi; cases hfi)
          simp only [upd, if_neg hne]
    have hd : ∀ j, ([(1, 0), (3, 2), (4, 1), (4, 3), (5, 4), (6, 5), (7, 5), (8, 5), (9, 5), (11, 10), (11, 6), (12, 7), (13, 8), (14, 9), (11, 0), (11, 1), (11, 2), (11, 3), (11, 4), (11, 5)] : List (Nat × Nat)).contains (i, j) = true → f j = true := fun j hj => depB_spec hD (by simpa using hj) ho hdep
    rcases (by omega : i = 0 ∨ i = 1 ∨ i = 2 ∨ i = 3 ∨ i = 4 ∨ i = 5 ∨ i = 6 ∨ i = 7 ∨ i = 8 ∨ i = 9 ∨ i = 10 ∨ i = 11 ∨ i = 12 ∨ i = 13 ∨ i = 14) with rfl | rfl | rfl | rfl | rfl | rfl | rfl | rfl | rfl | rfl | rfl | rfl | rfl | rfl | rfl
    · skip
      exact op_load25 (.tmp 2) rfl (e2.trans hbx) (hbox.kept hbel) szC (hK _ _ (by decide) (Below.refl _ _) rfl)
    · skip
      have ha := hall 0 (by decide) (hd 0 (by kernel_rfl))
      exact op_call 9 46 _ s1 rfl enter9 ((hev 46 (by decide) (by decide)).trans ha) ((lent_piece _ w hLw).mono fun r w' ⟨ll, hr, hL, hbl⟩ => ⟨_, hr, hK _ _ (by decide) hbl (.inr ⟨ll, rfl, hL.mark.ok, hL.d.trans hLd⟩)⟩)
    · skip
      exact op_load33 (.tmp 3) rfl (e3.trans hbe) (row_kept hboxe hbel) szE (hK _ _ (by decide) (Below.refl _ _) rfl)
    · skip
      have ha := hall 2 (by decide) (hd 2 (by kernel_rfl))
      exact op_call 11 48 _ s3 rfl enter11 ((hev 48 (by decide) (by decide)).trans ha) ((lentE_piece _ w hEw).mono fun r w' ⟨ll, hr, hL, hbl⟩ => ⟨_, hr, hK _ _ (by decide) hbl (.inr ⟨ll, rfl, hL.mark.ok, hL.d⟩)⟩)
    · skip
      have ha := hall 1 (by decide) (hd 1 (by kernel_rfl))
      have hb := hall 3 (by decide) (hd 3 (by kernel_rfl))
      by_cases hst : f 11 = true
      · exact absurd (hcl hst 4 (by decide)) (by rw [hfi]; decide)
      · rw [Bool.not_eq_true] at hst
        obtain ⟨y1, hy1, hy1o, hy1d⟩ := ha.resolve_left (by rw [hst]; decide)
        obtain ⟨y2, hy2, hy2o, hy2d⟩ := hb.resolve_left (by rw [hst]; decide)
        exact op_call2 10 47 49 _ _ s4 rfl enter10 ((hev 47 (by decide) (by decide)).trans hy1) ((hev 49 (by decide) (by decide)).trans hy2) ((join_piece y1 c y2 _ w hy1o hy2o hy1d hy2d).mono fun r w' hj => by obtain ⟨v, h1, h2, h3⟩ := JT.of (B := w0.heap.size) hj hg; exact ⟨v, h1, hK _ _ (by decide) h3 (.inr h2)⟩)
    · skip
      have ha := hall 4 (by decide) (hd 4 (by kernel_rfl))
      by_cases hst : f 11 = true
      · exact absurd (hcl hst 5 (by decide)) (by rw [hfi]; decide)
      · rw [Bool.not_eq_true] at hst
        have ha := ha.resolve_left (by rw [hst]; decide)
        obtain ⟨d, ad, cap, h1, h2⟩ := ha
        exact op_pure _ rfl rfl (ex_move ((hev 50 (by decide) (by decide)).trans h1)) (hK _ _ (by decide) (Below.refl _ _) ⟨d, ad, cap, rfl, h2⟩)
    · skip
      have ha := hall 5 (by decide) (hd 5 (by kernel_rfl))
      obtain ⟨d, ad, cap, h1, h2, h3, h4⟩ := ha
      exact op_pure _ rfl rfl (ex_extract ((hev 45 (by decide) (by decide)).trans h1) rfl) (hK _ _ (by decide) (Below.refl _ _) (.inr ⟨d, rfl, h2, h4⟩))
    · skip
      have ha := hall 5 (by decide) (hd 5 (by kernel_rfl))
      obtain ⟨d, ad, cap, h1, h2, h3, h4⟩ := ha
      exact op_pure _ rfl rfl (ex_extract ((hev 45 (by decide) (by decide)).trans h1) rfl) (hK _ _ (by decide) (Below.refl _ _) ⟨ad, cap, rfl, h3⟩)
    · skip
      have ha := hall 5 (by decide) (hd 5 (by kernel_rfl))
      obtain ⟨d, ad, cap, h1, h2, h3, h4⟩ := ha
      exact op_pure _ rfl rfl (ex_extract ((hev 45 (by decide) (by decide)).trans h1) rfl) (hK _ _ (by decide) (Below.refl _ _) rfl)
    · skip
      have ha := hall 5 (by decide) (hd 5 (by kernel_rfl))
      obtain ⟨d, ad, cap, h1, h2, h3, h4⟩ := ha
      exact op_pure _ rfl rfl (ex_extract ((hev 45 (by decide) (by decide)).trans h1) rfl) (hK _ _ (by decide) (Below.refl _ _) rfl)
    · skip
      exact op_alloc25 rfl (hK _ _ (by decide) ((Below.refl _ _).alloc (Nat.le_refl _) _) ⟨w.heap.size, hg, rfl, .inr (alloc_at rfl)⟩)
    · skip
      have ha := hall 10 (by decide) (hd 10 (by kernel_rfl))
      have hb := hall 6 (by decide) (hd 6 (by kernel_rfl))
      rw [hfi] at ha hb
      obtain ⟨gm, hm1', hm2, hm3⟩ := ha
      have hz := hm3.resolve_left (by decide)
      obtain ⟨d, hb1, hb2, hb3⟩ := hb.resolve_left (by decide)
      refine op_store25 _ _ rfl hz ((hev 8 (by decide) (by decide)).trans hm2) ((hev 51 (by decide) (by decide)).trans hb1) (fun W hp => ?_)
      refine ⟨x, rfl, hp.below hbel hg hm1', (fun _ j hj => ?_), fun j hj hfj => ?_⟩
      · show (if j = 11 then true else f j) = true
        split
        · rfl
        · have hj2 : ∀ j, j ∈ ([0, 1, 2, 3, 4, 5, 6, 10] : List Nat) → ([(1, 0), (3, 2), (4, 1), (4, 3), (5, 4), (6, 5), (7, 5), (8, 5), (9, 5), (11, 10), (11, 6), (12, 7), (13, 8), (14, 9), (11, 0), (11, 1), (11, 2), (11, 3), (11, 4), (11, 5)] : List (Nat × Nat)).contains (11, j) = true := List.all_eq_true.1 (by kernel_rfl)
          exact hd j (hj2 j hj)
      · show F5 w0.heap.size L c undef undef undef e (if 11 = 11 then true else f 11) j x W
        rw [if_pos rfl]
        have hfj : (if j = 11 then true else f j) = true := hfj
        by_cases e : j = 11
        · subst e; exact ⟨gm, d, hm1', hm2, hp.at', NewC.putB hb2 hp hz, hb3⟩
        · rw [if_neg e] at hfj
          have hj2 := hall j hj hfj
          rw [hfi] at hj2
          exact F5.put hj2 hz hp e
    · skip
      have ha := hall 7 (by decide) (hd 7 (by kernel_rfl))
      obtain ⟨ad, cap, h1, h2⟩ := ha
      exact op_pure _ rfl rfl (ex_assign ((hev 52 (by decide) (by decide)).trans h1)) (hK _ _ (by decide) (Below.refl _ _) ⟨ad, cap, rfl, h2⟩)
    · skip
      have ha := hall 8 (by decide) (hd 8 (by kernel_rfl))
      exact op_pure _ rfl rfl (ex_assign ((hev 53 (by decide) (by decide)).trans ha)) (hK _ _ (by decide) (Below.refl _ _) rfl)
    · skip
      have ha := hall 9 (by decide) (hd 9 (by kernel_rfl))
      exact op_pure _ rfl rfl (ex_assign ((hev 54 (by decide) (by decide)).trans ha)) (hK _ _ (by decide) (Below.refl _ _) rfl)
  · rintro f a w ⟨x, rfl, hbel, hcl, hall⟩ hf
    obtain ⟨gm, d, h1, h2, h3, h4, h5⟩ := hall 11 (by decide) (hf _ (by decide))
    obtain ⟨ad, cap, h6, h7⟩ := hall 12 (by decide) (hf _ (by decide))
    exact hend x w gm d ad cap hbel h1 h2 h3 h4 h5 h6 h7 (hall 13 (by decide) (hf _ (by decide))) (hall 14 (by decide) (hf _ (by decide)))
def F8 (B : Nat) (L c : Con) (bv kv pv : Value) (e : Ent) (s : Bool) (i : Nat) (x : Nat → Value) (W : World) : Prop :=
  match i with
  | 0 => x 236 = L.agg
  | 1 => s = true ∨ ∃ y, x 237 = Con.agg y ∧ ConOk W y ∧ y.d = c.d
  | 2 => x 238 = e.agg
  | 3 => s = true ∨ ∃ y, x 239 = Ent.agg y ∧ EntOk W y ∧ y.d = e.d
  | 4 => s = true ∨ JT B c e (x 240) W
  | 5 => JT B c e (x 235) W
  | 6 => s = true ∨ PD B c e (x 241) W
  | 7 => PG B c e (x 242) W
  | 8 => x 243 = .bool false
  | 9 => x 244 = .int .i64 (c.joinV' e)
  | 10 => ∃ gm, B ≤ gm ∧ x 29 = .pointer (some ⟨gm, 0, none⟩) ∧ (s = true ∨ ZB W gm)
  | 11 => ∃ gm d, B ≤ gm ∧ x 29 = .pointer (some ⟨gm, 0, none⟩) ∧ Box W gm d ∧ NewC B W d ∧ d.d = joinDs c e
  | 12 => PG B c e (x 30) W
  | 13 => x 31 = .bool false
  | 14 => x 32 = .int .i64 (c.joinV' e)
  | _ => True
theorem F8.mono {B : Nat} {L c : Con} {bv kv pv : Value} {e : Ent} {s : Bool} {i : Nat} {x x' : Nat → Value} {w w' : World} (h : F8 B L c bv kv pv e s i x w) (hx : x' ([236, 237, 238, 239, 240, 235, 241, 242, 243, 244, 29, 29, 30, 31, 32].getD i 0) = x ([236, 237, 238, 239, 240, 235, 241, 242, 243, 244, 29, 29, 30, 31, 32].getD i 0)) (hb : Below w.heap.size w w') : F8 B L c bv kv pv e s i x' w' := by
  match i, h, hx with
  | 0, h, hx => exact hx.trans h
  | 1, h, hx => exact h.imp id (fun ⟨y, h1, h2, h3⟩ => ⟨y, hx.trans h1, h2.kept hb, h3⟩)
  | 2, h, hx => exact hx.trans h
  | 3, h, hx => exact h.imp id (fun ⟨y, h1, h2, h3⟩ => ⟨y, hx.trans h1, h2.kept hb, h3⟩)
  | 4, h, hx => exact h.imp id (fun h => by rw [show x' 240 = x 240 from hx]; exact JT.kept h hb)
  | 5, h, hx => show JT B c e (x' 235) w'; rw [show x' 235 = x 235 from hx]; exact JT.kept h hb
  | 6, h, hx => exact h.imp id (fun h => by rw [show x' 241 = x 241 from hx]; exact PD.kept h hb)
  | 7, h, hx => show PG B c e (x' 242) w'; rw [show x' 242 = x 242 from hx]; exact PG.kept h hb
  | 8, h, hx => exact hx.trans h
  | 9, h, hx => exact hx.trans h
  | 10, h, hx => obtain ⟨gm, h1, h2, h3⟩ := h; exact ⟨gm, h1, hx.trans h2, h3.imp id (fun h => row_kept h hb)⟩
  | 11, h, hx => obtain ⟨gm, d, h1, h2, h3, h4, h5⟩ := h; exact ⟨gm, d, h1, hx.trans h2, h3.kept hb, h4.kept hb, h5⟩
  | 12, h, hx => show PG B c e (x' 30) w'; rw [show x' 30 = x 30 from hx]; exact PG.kept h hb
  | 13, h, hx => exact hx.trans h
  | 14, h, hx => exact hx.trans h
  | _ + 15, _, _ => exact trivial
theorem F8.put {B : Nat} {L c : Con} {bv kv pv : Value} {e : Ent} {i : Nat} {x : Nat → Value} {w w' : World} {g : Nat} {ob : Obj} (h : F8 B L c bv kv pv e false i x w) (hz : ZB w g) (hp : Put w g ob w') (hi : i ≠ 11) : F8 B L c bv kv pv e true i x w' := by
  match i, h with
  | 0, h => exact h
  | 1, h => exact .inl rfl
  | 2, h => exact h
  | 3, h => exact .inl rfl
  | 4, h => exact .inl rfl
  | 5, h => obtain ⟨d, ad, cap, h1, h2, h3, h4⟩ := h; exact ⟨d, ad, cap, h1, NewC.putB h2 hp hz, h3.kept hp.grown (.inr (own_ne_box h3 hz (by decide))), h4⟩
  | 6, h => exact .inl rfl
  | 7, h => obtain ⟨ad, cap, h1, h2⟩ := h; exact ⟨ad, cap, h1, h2.kept hp.grown (.inr (own_ne_box h2 hz (by decide)))⟩
  | 8, h => exact h
  | 9, h => exact h
  | 10, h => obtain ⟨gm, h1, h2, h3⟩ := h; exact ⟨gm, h1, h2, .inl rfl⟩
  | 11, h => exact absurd rfl hi
  | 12, h => obtain ⟨ad, cap, h1, h2⟩ := h; exact ⟨ad, cap, h1, h2.kept hp.grown (.inr (own_ne_box h2 hz (by decide)))⟩
  | 13, h => exact h
  | 14, h => exact h
  | _ + 15, _ => exact trivial
theorem jreg8 {Q : Exit → Act → World → Prop} {id : Nat} {l : List Oper} {a0 : Act} {w0 : World} {t0 t1 t2 t3 t4 t5 t6 t7 t8 t9 t10 t11 t12 t13 t14 : TypeId} {p0 p1 p2 p3 p4 p5 p6 p7 p8 p9 p10 p11 p12 p13 p14 : String} {f0 f1 f2 f3 f4 f5 f6 f7 f8 f9 f10 f11 f12 f13 f14 : Array Edge} {s1 s3 s4 : Array TypeId}
    (hl : l = [{ dst := some 236, op := .load 25 (.tmp 2), type := t0, pos := p0, after := f0, guard := none },
      { dst := some 237, op := .call { callee := .value (.func 9), args := #[.tmp 236], argTypes := s1 }, type := t1, pos := p1, after := f1, guard := none },
      { dst := some 238, op := .load 33 (.tmp 3), type := t2, pos := p2, after := f2, guard := none },
      { dst := some 239, op := .call { callee := .value (.func 11), args := #[.tmp 238], argTypes := s3 }, type := t3, pos := p3, after := f3, guard := none },
      { dst := some 240, op := .call { callee := .value (.func 10), args := #[.tmp 237, .tmp 239], argTypes := s4 }, type := t4, pos := p4, after := f4, guard := none },
      { dst := some 235, op := .move (.tmp 240), type := t5, pos := p5, after := f5, guard := none },
      { dst := some 241, op := .extract (.tmp 235) 0, type := t6, pos := p6, after := f6, guard := none },
      { dst := some 242, op := .extract (.tmp 235) 1, type := t7, pos := p7, after := f7, guard := none },
      { dst := some 243, op := .extract (.tmp 235) 2, type := t8, pos := p8, after := f8, guard := none },
      { dst := some 244, op := .extract (.tmp 235) 3, type := t9, pos := p9, after := f9, guard := none },
      { dst := some 29, op := .alloc 25, type := t10, pos := p10, after := f10, guard := none },
      { dst := none, op := .store 25 (.tmp 29) (.tmp 241), type := t11, pos := p11, after := f11, guard := none },
      { dst := some 30, op := .assign (.tmp 242), type := t12, pos := p12, after := f12, guard := none },
      { dst := some 31, op := .assign (.tmp 243), type := t13, pos := p13, after := f13, guard := none },
      { dst := some 32, op := .assign (.tmp 244), type := t14, pos := p14, after := f14, guard := none }])
    (hF : stateB l.toArray 15 = true) (hD : depB l [(1, 0), (3, 2), (4, 1), (4, 3), (5, 4), (6, 5), (7, 5), (8, 5), (9, 5), (11, 10), (11, 6), (12, 7), (13, 8), (14, 9), (11, 0), (11, 1), (11, 2), (11, 3), (11, 4), (11, 5)] = true)
    (hsz : 244 < a0.tmps.size)
    (gb : Nat) (hbx : a0.eval (.tmp 2) = .pointer (some ⟨gb, 0, none⟩)) (L c : Con) (hbox : Box w0 gb L) (hL : ConOk w0 L) (hLd : L.d = c.d)
    (ge : Nat) (hbe : a0.eval (.tmp 3) = .pointer (some ⟨ge, 0, none⟩)) (e : Ent) (hboxe : BoxE w0 ge e) (hE : EntOk w0 e)
    (hend : ∀ x w gm d ad cap, Below w0.heap.size w0 w → w0.heap.size ≤ gm → x 29 = .pointer (some ⟨gm, 0, none⟩) → Box w gm d → NewC w0.heap.size w d → d.d = joinDs c e → x 30 = .slice ad (joinGs c e).length cap →
      w.ownsRow w0.heap.size 64 3 (.slice ad (joinGs c e).length cap) (joinGs c e).length (gFlat (joinGs c e)) → x 31 = .bool false → x 32 = .int .i64 (c.joinV' e) → wpList Try.prog l.toArray Q [] (putsF a0 [236, 237, 238, 239, 240, 235, 241, 242, 243, 244, 29, 30, 31, 32] x) w)
    : (Code.region id l.toArray true).wp Try.prog Q a0 w0 := by
  subst hl
  refine wp_region_state 15 (fun f a w => ∃ x, a = putsF a0 [236, 237, 238, 239, 240, 235, 241, 242, 243, 244, 29, 30, 31, 32] x ∧ Below w0.heap.size w0 w ∧ (f 11 = true → ∀ j, j ∈ [0, 1, 2, 3, 4, 5, 6, 10] → f j = true) ∧ ∀ i, i < 15 → f i = true → F8 w0.heap.size L c undef undef undef e (f 11) i x w) (by kernel_rfl) hF
    ⟨_, putsF_self _ [236, 237, 238, 239, 240, 235, 241, 242, 243, 244, 29, 30, 31, 32], (Qt.drewN w0 1).below _, (fun h => Bool.noConfusion h), fun i _ h => Bool.noConfusion h⟩ ?_ ?_
  · rintro f a w i o ⟨x, rfl, hbel, hcl, hall⟩ ho hip hfi hdep
    have e2 : (putsF a0 [236, 237, 238, 239, 240, 235, 241, 242, 243, 244, 29, 30, 31, 32] x).eval (.tmp 2) = a0.eval (.tmp 2) := by rw [putsF_eval _ _ _ 2 (by omega), if_neg (by decide)]
    have e3 : (putsF a0 [236, 237, 238, 239, 240, 235, 241, 242, 243, 244, 29, 30, 31, 32] x).eval (.tmp 3) = a0.eval (.tmp 3) := by rw [putsF_eval _ _ _ 3 (by omega), if_neg (by decide)]
    have hev : ∀ t : Nat, t ∈ [236, 237, 238, 239, 240, 235, 241, 242, 243, 244, 29, 30, 31, 32] → t ≤ 244 → (putsF a0 [236, 237, 238, 239, 240, 235, 241, 242, 243, 244, 29, 30, 31, 32] x).eval (.tmp t) = x t := fun t ht h => by rw [putsF_eval _ _ _ t (by omega), if_pos ht]
    have hLw := hL.kept hbel
    have hg := hbel.size
    have hEw := hE.kept hbel
    have hK : ∀ (v : Value) (w' : World), i ≠ 11 → Below w.heap.size w w' → F8 w0.heap.size L c undef undef undef e (f 11) i (upd x ([236, 237, 238, 239, 240, 235, 241, 242, 243, 244, 29, 29, 30, 31, 32].getD i 0) v) w' → (fun a' w' => ∃ x, a' = putsF a0 [236, 237, 238, 239, 240, 235, 241, 242, 243, 244, 29, 30, 31, 32] x ∧ Below w0.heap.size w0 w' ∧ ((if 11 = i then true else f 11) = true → ∀ j, j ∈ [0, 1, 2, 3, 4, 5, 6, 10] → (if j = i then true else f j) = true) ∧ ∀ j, j < 15 → (if j = i then true else f j) = true → F8 w0.heap.size L c undef undef undef e (if 11 = i then true else f 11) j x w') ((putsF a0 [236, 237, 238, 239, 240, 235, 241, 242, 243, 244, 29, 30, 31, 32] x).put (some ([236, 237, 238, 239, 240, 235, 241, 242, 243, 244, 29, 29, 30, 31, 32].getD i 0)) v) w' := by
      intro v w' hi hb hF
      have hmem : ∀ i, i < 15 → [236, 237, 238, 239, 240, 235, 241, 242, 243, 244, 29, 29, 30, 31, 32].getD i 0 ∈ [236, 237, 238, 239, 240, 235, 241, 242, 243, 244, 29, 30, 31, 32] := by decide
      have hinj : ∀ i, i < 15 → ∀ j, j < 15 → (i = 11 ∨ j = i ∨ (j = 11 ∧ i = 10)) ∨ [236, 237, 238, 239, 240, 235, 241, 242, 243, 244, 29, 29, 30, 31, 32].getD j 0 ≠ [236, 237, 238, 239, 240, 235, 241, 242, 243, 244, 29, 29, 30, 31, 32].getD i 0 := by decide
      rw [if_neg (fun h => hi h.symm)]
      refine ⟨upd x ([236, 237, 238, 239, 240, 235, 241, 242, 243, 244, 29, 29, 30, 31, 32].getD i 0) v, putsF_put _ _ _ _ _ (hmem i hip), hbel.trans (hb.mono hg), (fun h j hj => ?_), fun j hj hfj => ?_⟩
      · split
        · rfl
        · exact hcl h j hj
      · by_cases e : j = i
        · subst e; exact hF
        · rw [if_neg e] at hfj
          refine F8.mono (hall j hj hfj) ?_ hb
          have hne := (hinj i hip j hj).resolve_left (fun hc => by rcases hc with hc | hc | ⟨e1, e2⟩; exact hi hc; exact e hc; subst e1 e2; rw [hcl hfj 10 (by decide)] at hfi; cases hfi)
          simp only [upd, if_neg hne]
    have hd : ∀ j, ([(1, 0), (3, 2), (4, 1), (4, 3), (5, 4), (6, 5), (7, 5), (8, 5), (9, 5), (11, 10), (11, 6), (12, 7), (13, 8), (14, 9), (11, 0), (11, 1), (11, 2), (11, 3), (11, 4), (11, 5)] : List (Nat × Nat)).contains (i, j) = true → f j = true := fun j hj => depB_spec hD (by simpa using hj) ho hdep
    rcases (by omega : i = 0 ∨ i = 1 ∨ i = 2 ∨ i = 3 ∨ i = 4 ∨ i = 5 ∨ i = 6 ∨ i = 7 ∨ i = 8 ∨ i = 9 ∨ i = 10 ∨ i = 11 ∨ i = 12 ∨ i = 13 ∨ i = 14) with rfl | rfl | rfl | rfl | rfl | rfl | rfl | rfl | rfl | rfl | rfl | rfl | rfl | rfl | rfl
    · skip
      exact op_load25 (.tmp 2) rfl (e2.trans hbx) (hbox.kept hbel) szC (hK _ _ (by decide) (Below.refl _ _) rfl)
    · skip
      have ha := hall 0 (by decide) (hd 0 (by kernel_rfl))
      exact op_call 9 236 _ s1 rfl enter9 ((hev 236 (by decide) (by decide)).trans ha) ((lent_piece _ w hLw).mono fun r w' ⟨ll, hr, hL, hbl⟩ => ⟨_, hr, hK _ _ (by decide) hbl (.inr ⟨ll, rfl, hL.mark.ok, hL.d.trans hLd⟩)⟩)
    · skip
      exact op_load33 (.tmp 3) rfl (e3.trans hbe) (row_kept hboxe hbel) szE (hK _ _ (by decide) (Below.refl _ _) rfl)
    · skip
      have ha := hall 2 (by decide) (hd 2 (by kernel_rfl))
      exact op_call 11 238 _ s3 rfl enter11 ((hev 238 (by decide) (by decide)).trans ha) ((lentE_piece _ w hEw).mono fun r w' ⟨ll, hr, hL, hbl⟩ => ⟨_, hr, hK _ _ (by decide) hbl (.inr ⟨ll, rfl, hL.mark.ok, hL.d⟩)⟩)
    · skip
      have ha := hall 1 (by decide) (hd 1 (by kernel_rfl))
      have hb := hall 3 (by decide) (hd 3 (by kernel_rfl))
      by_cases hst : f 11 = true
      · exact absurd (hcl hst 4 (by decide)) (by rw [hfi]; decide)
      · rw [Bool.not_eq_true] at hst
        obtain ⟨y1, hy1, hy1o, hy1d⟩ := ha.resolve_left (by rw [hst]; decide)
        obtain ⟨y2, hy2, hy2o, hy2d⟩ := hb.resolve_left (by rw [hst]; decide)
        exact op_call2 10 237 239 _ _ s4 rfl enter10 ((hev 237 (by decide) (by decide)).trans hy1) ((hev 239 (by decide) (by decide)).trans hy2) ((join_piece y1 c y2 _ w hy1o hy2o hy1d hy2d).mono fun r w' hj => by obtain ⟨v, h1, h2, h3⟩ := JT.of (B := w0.heap.size) hj hg; exact ⟨v, h1, hK _ _ (by decide) h3 (.inr h2)⟩)
    · skip
      have ha := hall 4 (by decide) (hd 4 (by kernel_rfl))
      by_cases hst : f 11 = true
      · exact absurd (hcl hst 5 (by decide)) (by rw [hfi]; decide)
      · rw [Bool.not_eq_true] at hst
        have ha := ha.resolve_left (by rw [hst]; decide)
        obtain ⟨d, ad, cap, h1, h2⟩ := ha
        exact op_pure _ rfl rfl (ex_move ((hev 240 (by decide) (by decide)).trans h1)) (hK _ _ (by decide) (Below.refl _ _) ⟨d, ad, cap, rfl, h2⟩)
    · skip
      have ha := hall 5 (by decide) (hd 5 (by kernel_rfl))
      obtain ⟨d, ad, cap, h1, h2, h3, h4⟩ := ha
      exact op_pure _ rfl rfl (ex_extract ((hev 235 (by decide) (by decide)).trans h1) rfl) (hK _ _ (by decide) (Below.refl _ _) (.inr ⟨d, rfl, h2, h4⟩))
    · skip
      have ha := hall 5 (by decide) (hd 5 (by kernel_rfl))
      obtain ⟨d, ad, cap, h1, h2, h3, h4⟩ := ha
      exact op_pure _ rfl rfl (ex_extract ((hev 235 (by decide) (by decide)).trans h1) rfl) (hK _ _ (by decide) (Below.refl _ _) ⟨ad, cap, rfl, h3⟩)
    · skip
      have ha := hall 5 (by decide) (hd 5 (by kernel_rfl))
      obtain ⟨d, ad, cap, h1, h2, h3, h4⟩ := ha
      exact op_pure _ rfl rfl (ex_extract ((hev 235 (by decide) (by decide)).trans h1) rfl) (hK _ _ (by decide) (Below.refl _ _) rfl)
    · skip
      have ha := hall 5 (by decide) (hd 5 (by kernel_rfl))
      obtain ⟨d, ad, cap, h1, h2, h3, h4⟩ := ha
      exact op_pure _ rfl rfl (ex_extract ((hev 235 (by decide) (by decide)).trans h1) rfl) (hK _ _ (by decide) (Below.refl _ _) rfl)
    · skip
      exact op_alloc25 rfl (hK _ _ (by decide) ((Below.refl _ _).alloc (Nat.le_refl _) _) ⟨w.heap.size, hg, rfl, .inr (alloc_at rfl)⟩)
    · skip
      have ha := hall 10 (by decide) (hd 10 (by kernel_rfl))
      have hb := hall 6 (by decide) (hd 6 (by kernel_rfl))
      rw [hfi] at ha hb
      obtain ⟨gm, hm1', hm2, hm3⟩ := ha
      have hz := hm3.resolve_left (by decide)
      obtain ⟨d, hb1, hb2, hb3⟩ := hb.resolve_left (by decide)
      refine op_store25 _ _ rfl hz ((hev 29 (by decide) (by decide)).trans hm2) ((hev 241 (by decide) (by decide)).trans hb1) (fun W hp => ?_)
      refine ⟨x, rfl, hp.below hbel hg hm1', (fun _ j hj => ?_), fun j hj hfj => ?_⟩
      · show (if j = 11 then true else f j) = true
        split
        · rfl
        · have hj2 : ∀ j, j ∈ ([0, 1, 2, 3, 4, 5, 6, 10] : List Nat) → ([(1, 0), (3, 2), (4, 1), (4, 3), (5, 4), (6, 5), (7, 5), (8, 5), (9, 5), (11, 10), (11, 6), (12, 7), (13, 8), (14, 9), (11, 0), (11, 1), (11, 2), (11, 3), (11, 4), (11, 5)] : List (Nat × Nat)).contains (11, j) = true := List.all_eq_true.1 (by kernel_rfl)
          exact hd j (hj2 j hj)
      · show F8 w0.heap.size L c undef undef undef e (if 11 = 11 then true else f 11) j x W
        rw [if_pos rfl]
        have hfj : (if j = 11 then true else f j) = true := hfj
        by_cases e : j = 11
        · subst e; exact ⟨gm, d, hm1', hm2, hp.at', NewC.putB hb2 hp hz, hb3⟩
        · rw [if_neg e] at hfj
          have hj2 := hall j hj hfj
          rw [hfi] at hj2
          exact F8.put hj2 hz hp e
    · skip
      have ha := hall 7 (by decide) (hd 7 (by kernel_rfl))
      obtain ⟨ad, cap, h1, h2⟩ := ha
      exact op_pure _ rfl rfl (ex_assign ((hev 242 (by decide) (by decide)).trans h1)) (hK _ _ (by decide) (Below.refl _ _) ⟨ad, cap, rfl, h2⟩)
    · skip
      have ha := hall 8 (by decide) (hd 8 (by kernel_rfl))
      exact op_pure _ rfl rfl (ex_assign ((hev 243 (by decide) (by decide)).trans ha)) (hK _ _ (by decide) (Below.refl _ _) rfl)
    · skip
      have ha := hall 9 (by decide) (hd 9 (by kernel_rfl))
      exact op_pure _ rfl rfl (ex_assign ((hev 244 (by decide) (by decide)).trans ha)) (hK _ _ (by decide) (Below.refl _ _) rfl)
  · rintro f a w ⟨x, rfl, hbel, hcl, hall⟩ hf
    obtain ⟨gm, d, h1, h2, h3, h4, h5⟩ := hall 11 (by decide) (hf _ (by decide))
    obtain ⟨ad, cap, h6, h7⟩ := hall 12 (by decide) (hf _ (by decide))
    exact hend x w gm d ad cap hbel h1 h2 h3 h4 h5 h6 h7 (hall 13 (by decide) (hf _ (by decide))) (hall 14 (by decide) (hf _ (by decide)))
end Go.Proofs.Ytpejcndfplbikaa
