/-
  Layer 21: what stands while the law of all contracts is walked.
-/
import Derived.Test.YtpejcndfplbikaaMa
import Derived.Test.YtpejcndfplbikaaVr
import Derived.Test.YtpejcndfplbikaaVi
namespace Go.Proofs.Ytpejcndfplbikaa
open Go.RowKit Go.K
set_option linter.unusedVariables false
set_option linter.unusedSimpArgs false
theorem num_any (n : Int) (w : World) : Calls Try.prog 13 #[.int .i64 n] w fun e w' => e = .returned (.int .i64 n) ∧ w = w' := by
  go_enter Try.func13, Try.ntmps13
  go_wp2
  go_ret
  exact ⟨rfl, rfl⟩
def Rng (r : Nat × Nat) (k : Nat) : Prop := r.1 ≤ k ∧ k < r.2
theorem LentC.only {r : Nat × Nat} {c l : Con} {W W' : World} {S : Nat → Prop} (h : LentC r c W l) (ho : Only S W W') (hS : ∀ k, r.1 ≤ k → k < r.2 → ¬ S k) : LentC r c W' l :=
  ⟨h.d, ⟨ho.owns h.mark.row (fun k hk => hS k (h.lo k hk).1 (h.lo k hk).2), fun x hx => ⟨ho.owns (h.mark.ents x hx).row (fun k hk => hS k (h.lw x hx k hk).1 (h.lw x hx k hk).2), (h.mark.ents x hx).mx, (h.mark.ents x hx).wf, (h.mark.ents x hx).iw, (h.mark.ents x hx).cw, (h.mark.ents x hx).pw⟩, h.mark.mx, h.mark.dis⟩, h.lo, h.lw⟩
theorem LentE.only {r : Nat × Nat} {e x : Ent} {W W' : World} {S : Nat → Prop} (h : LentE r e W x) (ho : Only S W W') (hS : ∀ k, r.1 ≤ k → k < r.2 → ¬ S k) : LentE r e W' x :=
  ⟨h.d, ⟨ho.owns h.mark.row (fun k hk => hS k (h.lo k hk).1 (h.lo k hk).2), h.mark.mx, h.mark.wf, h.mark.iw, h.mark.cw, h.mark.pw⟩, h.lo⟩
theorem LentC.put {r : Nat × Nat} {c l : Con} {W W' : World} {g : Nat} {o : Obj} (h : LentC r c W l) (hp : Put W g o W') (hg : g < r.1 ∨ r.2 ≤ g) : LentC r c W' l := h.only hp.only (fun k h1 h2 e => by subst e; omega)
theorem LentE.put {r : Nat × Nat} {e x : Ent} {W W' : World} {g : Nat} {o : Obj} (h : LentE r e W x) (hp : Put W g o W') (hg : g < r.1 ∨ r.2 ≤ g) : LentE r e W' x := h.only hp.only (fun k h1 h2 e => by subst e; omega)
theorem BoxE.kept {W W' : World} {g : Nat} {e : Ent} (h : BoxE W g e) (hb : Below W.heap.size W W') : BoxE W' g e := row_kept h hb
/-- A lent contract is written over: what it turns. -/
theorem kept_piece (r : Nat × Nat) (l c : Con) (w : World) (hl : LentC r c w l) (hc : ConOk w c) : Calls Try.prog 16 #[l.agg, c.agg] w fun e w' => e = .returned (.bool true) ∧ Only (Rng r) w w' :=
  kept_any (Rng r) r.1 l c w hl.mark hc hl.d (fun k hk => hl.lo k hk) (fun x hx k hk => hl.lw x hx k hk)
theorem con_eq {l c : Con} (h : l.d = c.d) : l.kind = c.kind ∧ l.by' = c.by' ∧ l.to' = c.to' ∧ l.want = c.want ∧ l.price = c.price ∧ l.reserve = c.reserve ∧ l.step = c.step ∧ l.of' = c.of' ∧ l.es.map Ent.d = c.es.map Ent.d := by
  simp only [Con.d, Prod.mk.injEq] at h
  obtain ⟨⟨h1, h2, h3, h4, h5⟩, ⟨h6, h7, h8, h9, h10⟩, h11⟩ := h
  exact ⟨h2, h3, h5, h6, h7, h8, h9, h10, h11⟩
theorem terms_piece (r : Nat × Nat) (l c : Con) (w : World) (hl : LentC r c w l) : Calls Try.prog 21 #[l.agg] w fun e w' => e = .returned (.int .i64 (termsV c.kind c.by' c.to' c.want c.price c.reserve c.step c.of' (c.es.map Ent.d))) ∧ Below w.heap.size w w' := by
  have h := terms_any l w hl.mark.ok
  obtain ⟨h1, h2, h3, h4, h5, h6, h7, h8, h9⟩ := con_eq hl.d
  rw [h1, h2, h3, h4, h5, h6, h7, h8, h9] at h
  exact h
theorem end_piece (r : Nat × Nat) (l c : Con) (w : World) (hl : LentC r c w l) : Calls Try.prog 17 #[l.agg] w fun e w' => OwnG w.heap.size w' e (endL c.kind c.reserve (c.es.map Ent.d)) ∧ Below w.heap.size w w' := by
  have h := end_any l w hl.mark.ok
  obtain ⟨h1, h2, h3, h4, h5, h6, h7, h8, h9⟩ := con_eq hl.d
  rw [h1, h6, h9] at h
  exact h
theorem back_piece (r : Nat × Nat) (l c : Con) (w : World) (hl : LentC r c w l) : Calls Try.prog 19 #[l.agg] w fun e w' => OwnG w.heap.size w' e (backP (c.es.map Ent.d) c.es.length) ∧ Below w.heap.size w w' := by
  have h := back_all l w hl.mark.ok
  obtain ⟨h1, h2, h3, h4, h5, h6, h7, h8, h9⟩ := con_eq hl.d
  have hn : l.es.length = c.es.length := by have := congrArg List.length h9; simpa using this
  rw [h9, hn] at h
  exact h
theorem endL_le (k r : Int) (l : List DE) : (endL k r l).length ≤ 2 * l.length + 1 := by
  unfold endL
  split
  · have := backP_le l l.length; omega
  · have := endP_le l (winV k r l).1 (winV k r l).2 l.length; split at this <;> omega
/-- What stands behind the first line of the law. -/
structure Abd (w : World) (c : Con) (e : Ent) (l1 l2 l3 : Con) (r1 r2 r3 : Nat × Nat) (g1 g2 g3 : Nat) (V : World) : Prop where
  bel : Below w.heap.size w V
  bc : Box V w.heap.size c
  be : BoxE V (w.heap.size + 1) e
  b1 : Box V g1 l1
  b2 : Box V g2 l2
  b3 : Box V g3 l3
  h1 : LentC r1 c V l1
  h2 : LentC r2 c V l2
  h3 : LentC r3 c V l3
theorem Abd.kept {w : World} {c : Con} {e : Ent} {l1 l2 l3 : Con} {r1 r2 r3 : Nat × Nat} {g1 g2 g3 : Nat} {V V' : World} (h : Abd w c e l1 l2 l3 r1 r2 r3 g1 g2 g3 V) (hb : Below V.heap.size V V') : Abd w c e l1 l2 l3 r1 r2 r3 g1 g2 g3 V' :=
  ⟨h.bel.trans (hb.mono h.bel.size), h.bc.kept hb, h.be.kept hb, h.b1.kept hb, h.b2.kept hb, h.b3.kept hb, h.h1.kept hb, h.h2.kept hb, h.h3.kept hb⟩
/-- What stays while lent things are written over. -/
structure Cb (w : World) (c : Con) (e : Ent) (V : World) : Prop where
  bel : Below w.heap.size w V
  bc : Box V w.heap.size c
  be : BoxE V (w.heap.size + 1) e
theorem Abd.cb {w : World} {c : Con} {e : Ent} {l1 l2 l3 : Con} {r1 r2 r3 : Nat × Nat} {g1 g2 g3 : Nat} {V : World} (h : Abd w c e l1 l2 l3 r1 r2 r3 g1 g2 g3 V) : Cb w c e V := ⟨h.bel, h.bc, h.be⟩
theorem Cb.kept {w : World} {c : Con} {e : Ent} {V V' : World} (h : Cb w c e V) (hb : Below V.heap.size V V') : Cb w c e V' := ⟨h.bel.trans (hb.mono h.bel.size), h.bc.kept hb, h.be.kept hb⟩
theorem Cb.only {w : World} {c : Con} {e : Ent} {V V' : World} {r : Nat × Nat} (h : Cb w c e V) (ho : Only (Rng r) V V') (hr : w.heap.size + 1 < r.1) : Cb w c e V' :=
  ⟨h.bel.trans (ho.below h.bel.size (fun k hk => by have := hk.1; omega)), h.bc.only ho (fun hk => by have := hk.1; omega), ho.row h.be (fun hk => by have := hk.1; omega)⟩
theorem Rng.not {r : Nat × Nat} {g : Nat} (h : g < r.1 ∨ r.2 ≤ g) : ¬ Rng r g := fun hk => by have h1 := hk.1; have h2 := hk.2; omega
theorem LentC.off {r s : Nat × Nat} {c l : Con} {W W' : World} (h : LentC r c W l) (ho : Only (Rng s) W W') (hd : r.2 ≤ s.1 ∨ s.2 ≤ r.1) : LentC r c W' l := h.only ho (fun k h1 h2 hk => by have h3 := hk.1; have h4 := hk.2; omega)
theorem LentE.off {r s : Nat × Nat} {e x : Ent} {W W' : World} (h : LentE r e W x) (ho : Only (Rng s) W W') (hd : r.2 ≤ s.1 ∨ s.2 ≤ r.1) : LentE r e W' x := h.only ho (fun k h1 h2 hk => by have h3 := hk.1; have h4 := hk.2; omega)
theorem joinV'_eq {l c : Con} {x e : Ent} (h : l.d = c.d) (hx : x.d = e.d) : l.joinV' x = c.joinV' e := by
  obtain ⟨h1, h2, h3, h4, h5, h6, h7, h8, h9⟩ := con_eq h
  unfold Con.joinV'
  rw [h1, h2, h6, h7, h9, hx]
theorem joinD_eq {l c : Con} {x e : Ent} (h : l.d = c.d) (hx : x.d = e.d) : joinD l x = joinD c e := by
  have h9 := (con_eq h).2.2.2.2.2.2.2.2
  have h1 := (con_eq h).1
  simp only [Con.d, Prod.mk.injEq] at h
  obtain ⟨⟨a1, a2, a3, a4, a5⟩, ⟨a6, a7, a8, a9, a10⟩, _⟩ := h
  unfold joinD
  rw [a1, a2, a3, a4, a5, a6, a7, a8, a9, a10, h9, hx]
/-- What a join answers, said of what shows the same. -/
def joinGs (c : Con) (e : Ent) : List Gi := if c.joinV' e = 0 then joinG c.kind (c.es.map Ent.d) else []
def joinDs (c : Con) (e : Ent) : (Int × Int × Int × Int × Int) × (Int × Int × Int × Int × Int) × List DE := if c.joinV' e = 0 then joinD c e else conZ.d
def JoinP (w : World) (c : Con) (e : Ent) (r : Ending) (w' : World) : Prop :=
  ∃ (d : Con) (ad : Option Addr) (cap : Nat), r = .returned (.tuple #[.agg #[.int .i64 d.num, .int .i64 d.kind, .int .i64 d.by', .int .i64 d.dl, .int .i64 d.to', .int .i64 d.want, .int .u64 d.price, .int .u64 d.reserve, .int .u64 d.step, .int .i64 d.of', .slice d.ea d.es.length d.ec], .slice ad (joinGs c e).length cap, .bool false, .int .i64 (c.joinV' e)]) ∧
    Below w.heap.size w w' ∧ NewC w.heap.size w' d ∧ w'.ownsRow w.heap.size 64 3 (.slice ad (joinGs c e).length cap) (joinGs c e).length (gFlat (joinGs c e)) ∧ d.d = joinDs c e
theorem joinGs_le (c : Con) (e : Ent) : (joinGs c e).length ≤ 2 := by
  unfold joinGs joinG
  split
  · split
    · exact giveL_le _ _ _
    · exact Nat.zero_le _
  · exact Nat.zero_le _
theorem join_ans {w w' : World} {l c : Con} {x e : Ent} {r : Ending} (h : l.d = c.d) (hx : x.d = e.d) (hj : JoinAns w l x r w') : JoinP w c e r w' := by
  obtain ⟨d, ad, cap, gs, hr, hb, hN, hg, hgs, hd⟩ := hj
  have hv := joinV'_eq h hx
  have hG : gs = joinGs c e := by
    rw [hgs]; unfold joinGs; rw [hv, (con_eq h).1, (con_eq h).2.2.2.2.2.2.2.2]
  subst hG
  refine ⟨d, ad, cap, ?_, hb, hN, hg, ?_⟩
  · rw [hr, hv]; rfl
  · rw [hd]; unfold joinDs; rw [hv, joinD_eq h hx]
theorem join_piece (l c : Con) (x e : Ent) (w : World) (hl : ConOk w l) (hx : EntOk w x) (h : l.d = c.d) (h2 : x.d = e.d) : Calls Try.prog 10 #[l.agg, x.agg] w (JoinP w c e) := (join_any l x w hl hx).mono fun r w' hj => join_ans h h2 hj
theorem rjoin_piece (c : Con) (e : Ent) (w : World) (hc : ConOk w c) (he : EntOk w e) : Calls Try.prog 12 #[c.agg, e.agg] w (JoinP w c e) := (rjoin_any c e w hc he).mono fun r w' hj => join_ans rfl rfl hj
/-- What stands behind the joins. -/
structure Ins (w : World) (c : Con) (e : Ent) (l : Con) (x : Ent) (r s : Nat × Nat) (g h : Nat) (V : World) : Prop where
  cb : Cb w c e V
  bl : Box V g l
  bx : BoxE V h x
  hl : LentC r c V l
  hx : LentE s e V x
theorem Ins.kept {w : World} {c : Con} {e : Ent} {l : Con} {x : Ent} {r s : Nat × Nat} {g h : Nat} {V V' : World} (H : Ins w c e l x r s g h V) (hb : Below V.heap.size V V') : Ins w c e l x r s g h V' := ⟨H.cb.kept hb, H.bl.kept hb, H.bx.kept hb, H.hl.kept hb, H.hx.kept hb⟩
/-- ... with the contracts that were answered. -/
structure Out (w : World) (c : Con) (e : Ent) (l : Con) (x : Ent) (r s : Nat × Nat) (g h : Nat) (d1 d2 : Con) (m1 m2 B1 B2 : Nat) (V : World) : Prop where
  ins : Ins w c e l x r s g h V
  b1 : Box V m1 d1
  b2 : Box V m2 d2
  n1 : NewC B1 V d1
  n2 : NewC B2 V d2
theorem Out.kept {w : World} {c : Con} {e : Ent} {l : Con} {x : Ent} {r s : Nat × Nat} {g h : Nat} {d1 d2 : Con} {m1 m2 B1 B2 : Nat} {V V' : World} (H : Out w c e l x r s g h d1 d2 m1 m2 B1 B2 V) (hb : Below V.heap.size V V') : Out w c e l x r s g h d1 d2 m1 m2 B1 B2 V' := ⟨H.ins.kept hb, H.b1.kept hb, H.b2.kept hb, H.n1.kept hb, H.n2.kept hb⟩
theorem NewC.only {B : Nat} {S : Nat → Prop} {W W' : World} {d : Con} (h : NewC B W d) (ho : Only S W W') (hS : ∀ k, B ≤ k → ¬ S k) : NewC B W' d :=
  ⟨ho.owns h.row (fun k hk => hS k (h.row.lt k hk).1), fun x hx => ⟨ho.owns (h.ents x hx).row (fun k hk => hS k ((h.ents x hx).row.lt k hk).1), (h.ents x hx).mx, (h.ents x hx).wf, (h.ents x hx).iw, (h.ents x hx).cw, (h.ents x hx).pw⟩, h.mx⟩
end Go.Proofs.Ytpejcndfplbikaa
