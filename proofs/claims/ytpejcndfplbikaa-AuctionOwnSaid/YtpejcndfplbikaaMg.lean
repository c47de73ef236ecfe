/-
  Layer 21: the regions 'out, l, over, f := Join(..)' of bids one behind the other, of which the struct variable is made at any time.
-/
import Derived.Test.YtpejcndfplbikaaMb
import Derived.Test.YtpejcndfplbikaaMc
namespace Go.Proofs.Ytpejcndfplbikaa
open Go.RowKit Go.K
set_option linter.unusedVariables false
set_option linter.unusedSimpArgs false
section
variable {ops : Array Oper} {Q : Exit → Act → World → Prop} {i : Nat} {K : Act → World → Prop} {a : Act} {w : World}
theorem op_pure {o : Oper} (u : Value) (ho : ops[i]? = some o) (hg : o.guard = none) (hr : (execOp a.eval o).run Try.prog w = .ok (.value u) w) (hk : K (a.put o.dst u) w) : wpOp Try.prog ops Q i K a w := by
  refine wpOp_step ho (fun K' hK => ?_)
  rw [if_pos (by simp [Region.wanted, hg])]
  unfold Oper.wp
  rw [hr]
  exact hK _ _ hk
theorem ex_move {d : Option Tmp} {t : Tmp} {tt : TypeId} {pos : String} {af : Array Edge} {u : Value} (hx : a.eval (.tmp t) = u) : (execOp a.eval { dst := d, op := .move (.tmp t), type := tt, pos := pos, after := af, guard := none }).run Try.prog w = .ok (.value u) w := by
  have e : a.tmps[t]?.getD undef = u := by simpa [Act.eval] using hx
  go_simp
theorem ex_extract {d : Option Tmp} {t : Tmp} {n : Nat} {tt : TypeId} {pos : String} {af : Array Edge} {vs : Array Value} {u : Value} (hx : a.eval (.tmp t) = .tuple vs) (hu : vs[n]? = some u) : (execOp a.eval { dst := d, op := .extract (.tmp t) n, type := tt, pos := pos, after := af, guard := none }).run Try.prog w = .ok (.value u) w := by
  have e : a.tmps[t]?.getD undef = .tuple vs := by simpa [Act.eval] using hx
  go_simp
theorem ex_index {d : Option Tmp} {t s : Tmp} {tt : TypeId} {pos : String} {af : Array Edge} {b off len cap k : Nat} (hx : a.eval (.tmp t) = .slice (some ⟨b, off, none⟩) len cap) (hy : a.eval (.tmp s) = .int .i64 k) (hk : k < len) : (execOp a.eval { dst := d, op := .indexAddr 23 (.tmp t) (.tmp s), type := tt, pos := pos, after := af, guard := none }).run Try.prog w = .ok (.value (.pointer (some ⟨b, off + k * 5, none⟩))) w := by
  have e : a.tmps[t]?.getD undef = .slice (some ⟨b, off, none⟩) len cap := by simpa [Act.eval] using hx
  have e2 : a.tmps[s]?.getD undef = .int .i64 k := by simpa [Act.eval] using hy
  have e3 : (k : Int) < (len : Int) := by omega
  go_simp
theorem ex_load33 {d : Option Tmp} {t : Tmp} {tt : TypeId} {pos : String} {af : Array Edge} {b o : Nat} {x : Ent} (hx : a.eval (.tmp t) = .pointer (some ⟨b, o, none⟩)) (h0 : w.cell? ⟨b, o, none⟩ = some (.int .i64 x.acc)) (h1 : w.cell? ⟨b, o + 1, none⟩ = some (.int .i64 x.item)) (h2 : w.cell? ⟨b, o + 2, none⟩ = some (.int .u64 x.coins)) (h3 : w.cell? ⟨b, o + 3, none⟩ = some (.int .u64 x.price)) (h4 : w.cell? ⟨b, o + 4, none⟩ = some (.slice x.wa x.ws.length x.wc)) :
    (execOp a.eval { dst := d, op := .load 33 (.tmp t), type := tt, pos := pos, after := af, guard := none }).run Try.prog w = .ok (.value x.agg) w := by
  have e : a.tmps[t]?.getD undef = .pointer (some ⟨b, o, none⟩) := by simpa [Act.eval] using hx
  obtain ⟨x1, x2, x3, x4, x5, x6, x7⟩ := x
  unfold Ent.agg
  simp only at *
  go_simp
theorem ex_assign {d : Option Tmp} {t : Tmp} {tt : TypeId} {pos : String} {af : Array Edge} {u : Value} (hx : a.eval (.tmp t) = u) : (execOp a.eval { dst := d, op := .assign (.tmp t), type := tt, pos := pos, after := af, guard := none }).run Try.prog w = .ok (.value u) w := by
  have e : a.tmps[t]?.getD undef = u := by simpa [Act.eval] using hx
  go_simp
theorem op_store25 {tt : TypeId} {pos : String} {af : Array Edge} (x y : Operand) (ho : ops[i]? = some { dst := none, op := .store 25 x y, type := tt, pos := pos, after := af, guard := none }) {g : Nat} {d : Con} (hz : ZB w g) (hx : a.eval x = .pointer (some ⟨g, 0, none⟩)) (hy : a.eval y = d.agg)
    (hk : ∀ W, Put w g (.cells #[.int .i64 d.num, .int .i64 d.kind, .int .i64 d.by', .int .i64 d.dl, .int .i64 d.to', .int .i64 d.want, .int .u64 d.price, .int .u64 d.reserve, .int .u64 d.step, .int .i64 d.of', .slice d.ea d.es.length d.ec] 25) W → K a W) : wpOp Try.prog ops Q i K a w := by
  refine wpOp_step ho (fun K' hK => ?_)
  rw [if_pos (by simp [Region.wanted])]
  have h := inv_store_lit (P := Try.prog) (C := fun W => Put w g (.cells #[.int .i64 d.num, .int .i64 d.kind, .int .i64 d.by', .int .i64 d.dl, .int .i64 d.to', .int .i64 d.want, .int .u64 d.price, .int .u64 d.reserve, .int .u64 d.step, .int .i64 d.of', .slice d.ea d.es.length d.ec] 25) W) (a := a) (x := x) (y := y) (tt := tt) (pos := pos) (af := af) 25 g 0
    #[.int .i64 d.num, .int .i64 d.kind, .int .i64 d.by', .int .i64 d.dl, .int .i64 d.to', .int .i64 d.want, .int .u64 d.price, .int .u64 d.reserve, .int .u64 d.step, .int .i64 d.of', .slice d.ea d.es.length d.ec] d.agg hz szC (Nat.le_of_ble_eq_true rfl) rfl rfl hx hy (fun W h => h)
  unfold Oper.wp
  generalize (execOp a.eval _).run Try.prog w = r at h
  cases r with
  | ok n w' =>
    cases n <;> simp only [InvRun] at h <;> simp only [Oper.upon]
    case value u => obtain ⟨h, rfl⟩ := h; exact hK _ _ (hk _ h)
    case skip => exact hK _ _ (hk _ h.1)
    case enter f args => exact h.mono fun e w'' ⟨he, hc⟩ => by subst he; exact hK _ _ (hk _ hc)
  | halt x w' => simp only [InvRun] at h
theorem op_call2 {d : Tmp} {tt : TypeId} {pos : String} {af : Array Edge} (f : FuncId) (t s : Tmp) (u v : Value) (ats : Array TypeId) (ho : ops[i]? = some { dst := some d, op := .call { callee := .value (.func f), args := #[.tmp t, .tmp s], argTypes := ats }, type := tt, pos := pos, after := af, guard := none })
    (he : ∀ v1 v2 (W : World), (callFunc f #[v1, v2]).run Try.prog W = .ok (.enter f #[v1, v2]) W) (hx : a.eval (.tmp t) = u) (hy : a.eval (.tmp s) = v) (h : Calls Try.prog f #[u, v] w fun e w' => ∃ v, e = .returned v ∧ K (a.put (some d) v) w') : wpOp Try.prog ops Q i K a w := by
  refine wpOp_step ho (fun K' hK => ?_)
  have e : a.tmps[t]?.getD undef = u := by simpa [Act.eval] using hx
  have e2 : a.tmps[s]?.getD undef = v := by simpa [Act.eval] using hy
  go_simp
  refine h.mono ?_
  rintro e w' ⟨v, rfl, hk⟩
  exact hK _ _ hk
end
theorem own_ne_box {W : World} {B g t s n : Nat} {v : Value} {xs : List Value} {cs : Array Value} {fr : Nat × Nat} {t2 : TypeId} (h : W.ownsRow B t s v n xs) (hb : W.heap[g]? = some (.cells cs t2 fr)) (ht : t ≠ t2) : v.ownBlock ≠ some g := by
  rcases h.2 with ⟨h1, _⟩ | ⟨g', cap, cur, rfl, _, hr, _⟩
  · rw [h1]; intro e; cases e
  · intro e
    injection e with e
    subst e
    rw [hb] at hr
    injection hr with hr
    injection hr with _ hr _
    exact ht hr.symm
theorem NewC.putB {B g : Nat} {W W' : World} {d : Con} {o : Obj} {cs : Array Value} {fr : Nat × Nat} (h : NewC B W d) (hp : Put W g o W') (hb : W.heap[g]? = some (.cells cs 25 fr)) : NewC B W' d :=
  ⟨h.row.kept hp.grown (.inr (own_ne_box h.row hb (by decide))), fun e he => ⟨(h.ents e he).row.kept hp.grown (.inr (own_ne_box (h.ents e he).row hb (by decide))), (h.ents e he).mx, (h.ents e he).wf, (h.ents e he).iw, (h.ents e he).cw, (h.ents e he).pw⟩, h.mx⟩
/-- Which operations wait on which. -/
def depB (l : List Oper) (ds : List (Nat × Nat)) : Bool := ds.all fun q => match l[q.1]? with | some o => waitsOn o q.2 | none => false
theorem depB_spec {l : List Oper} {ds : List (Nat × Nat)} (h : depB l ds = true) {i j : Nat} (hm : (i, j) ∈ ds) {o : Oper} (ho : l[i]? = some o) {f : Nat → Bool} (hdep : ∀ e ∈ o.after, Region.binds .any e = true → f e.on = true) : f j = true := by
  have h1 := List.all_eq_true.1 h _ hm
  simp only [ho] at h1
  unfold waitsOn at h1
  rw [Array.any_eq_true'] at h1
  obtain ⟨e, he, h2⟩ := h1
  simp only [Bool.and_eq_true, beq_iff_eq] at h2
  rw [← h2.2]
  exact hdep e he h2.1
theorem putsF_self (a0 : Act) (ds : List Nat) : a0 = putsF a0 ds (fun t => a0.tmps.getD t undef) := by
  have h1 : a0.tmps = (putsF a0 ds (fun t => a0.tmps.getD t undef)).tmps := by
    apply Array.ext_getElem?
    intro t
    rw [putsF_get]
    split
    · rename_i h
      simp [Array.getD_eq_getD_getElem?, Array.getElem?_eq_getElem h.2]
    · rfl
  have h2 : a0.defers = (putsF a0 ds (fun t => a0.tmps.getD t undef)).defers := (putsF_defers _ _ _).symm
  generalize putsF a0 ds (fun t => a0.tmps.getD t undef) = b at h1 h2
  cases a0
  cases b
  simp only at h1 h2
  rw [h1, h2]
theorem enter10 : ∀ v1 v2 (W : World), (callFunc 10 #[v1, v2]).run Try.prog W = .ok (.enter 10 #[v1, v2]) W := fun v1 v2 W => run_enter (fn := Try.f10) (by kernel_rfl) (by kernel_rfl) (by kernel_rfl) _ W
theorem enter12 : ∀ v1 v2 (W : World), (callFunc 12 #[v1, v2]).run Try.prog W = .ok (.enter 12 #[v1, v2]) W := fun v1 v2 W => run_enter (fn := Try.f12) (by kernel_rfl) (by kernel_rfl) (by kernel_rfl) _ W
theorem NewC.base {B B' : Nat} {W : World} {x : Con} (h : NewC B W x) (hb : B' ≤ B) : NewC B' W x := ⟨owns_base h.row hb, fun e he => (h.ents e he).base hb, h.mx⟩
/-- What a join gives, as a value. -/
def JT (B : Nat) (c : Con) (e : Ent) (v : Value) (W : World) : Prop := ∃ (d : Con) (ad : Option Addr) (cap : Nat), v = .tuple #[d.agg, .slice ad (joinGs c e).length cap, .bool false, .int .i64 (c.joinV' e)] ∧
    NewC B W d ∧ W.ownsRow B 64 3 (.slice ad (joinGs c e).length cap) (joinGs c e).length (gFlat (joinGs c e)) ∧ d.d = joinDs c e
theorem JT.kept {B : Nat} {c : Con} {e : Ent} {v : Value} {W W' : World} (h : JT B c e v W) (hb : Below W.heap.size W W') : JT B c e v W' := by
  obtain ⟨d, ad, cap, h1, h2, h3, h4⟩ := h
  exact ⟨d, ad, cap, h1, h2.kept hb, owns_below (B := 0) h3 hb, h4⟩
theorem JT.of {B : Nat} {c : Con} {e : Ent} {w w' : World} {r : Ending} (h : JoinP w c e r w') (hB : B ≤ w.heap.size) : ∃ v, r = .returned v ∧ JT B c e v w' ∧ Below w.heap.size w w' := by
  obtain ⟨d, ad, cap, h1, h2, h3, h4, h5⟩ := h
  exact ⟨_, h1, ⟨d, ad, cap, rfl, h3.base hB, owns_base h4 hB, h5⟩, h2⟩
def PD (B : Nat) (c : Con) (e : Ent) (v : Value) (W : World) : Prop := ∃ d : Con, v = d.agg ∧ NewC B W d ∧ d.d = joinDs c e
def PG (B : Nat) (c : Con) (e : Ent) (v : Value) (W : World) : Prop := ∃ (ad : Option Addr) (cap : Nat), v = .slice ad (joinGs c e).length cap ∧ W.ownsRow B 64 3 (.slice ad (joinGs c e).length cap) (joinGs c e).length (gFlat (joinGs c e))
theorem PD.kept {B : Nat} {c : Con} {e : Ent} {v : Value} {W W' : World} (h : PD B c e v W) (hb : Below W.heap.size W W') : PD B c e v W' := by
  obtain ⟨d, h1, h2, h3⟩ := h
  exact ⟨d, h1, h2.kept hb, h3⟩
theorem PG.kept {B : Nat} {c : Con} {e : Ent} {v : Value} {W W' : World} (h : PG B c e v W) (hb : Below W.heap.size W W') : PG B c e v W' := by
  obtain ⟨ad, cap, h1, h2⟩ := h
  exact ⟨ad, cap, h1, owns_below (B := 0) h2 hb⟩
def FJ (B : Nat) (L c : Con) (bv kv pv : Value) (e : Ent) (s : Bool) (i : Nat) (x : Nat → Value) (W : World) : Prop :=
  match i with
  | 0 => x 26 = L.agg
  | 1 => x 27 = bv
  | 2 => x 28 = kv
  | 3 => x 29 = pv
  | 4 => x 30 = e.agg
  | 5 => s = true ∨ ∃ y, x 31 = Ent.agg y ∧ EntOk W y ∧ y.d = e.d
  | 6 => s = true ∨ JT B c e (x 32) W
  | 7 => JT B c e (x 25) W
  | 8 => s = true ∨ PD B c e (x 33) W
  | 9 => PG B c e (x 34) W
  | 10 => x 35 = .bool false
  | 11 => x 36 = .int .i64 (c.joinV' e)
  | 12 => ∃ gm, B ≤ gm ∧ x 8 = .pointer (some ⟨gm, 0, none⟩) ∧ (s = true ∨ ZB W gm)
  | 13 => ∃ gm d, B ≤ gm ∧ x 8 = .pointer (some ⟨gm, 0, none⟩) ∧ Box W gm d ∧ NewC B W d ∧ d.d = joinDs c e
  | 14 => PG B c e (x 9) W
  | 15 => x 10 = .bool false
  | 16 => x 11 = .int .i64 (c.joinV' e)
  | _ => True
theorem FJ.mono {B : Nat} {L c : Con} {bv kv pv : Value} {e : Ent} {s : Bool} {i : Nat} {x x' : Nat → Value} {w w' : World} (h : FJ B L c bv kv pv e s i x w) (hx : x' ([26, 27, 28, 29, 30, 31, 32, 25, 33, 34, 35, 36, 8, 8, 9, 10, 11].getD i 0) = x ([26, 27, 28, 29, 30, 31, 32, 25, 33, 34, 35, 36, 8, 8, 9, 10, 11].getD i 0)) (hb : Below w.heap.size w w') : FJ B L c bv kv pv e s i x' w' := by
  match i, h, hx with
  | 0, h, hx => exact hx.trans h
  | 1, h, hx => exact hx.trans h
  | 2, h, hx => exact hx.trans h
  | 3, h, hx => exact hx.trans h
  | 4, h, hx => exact hx.trans h
  | 5, h, hx => exact h.imp id (fun ⟨y, h1, h2, h3⟩ => ⟨y, hx.trans h1, h2.kept hb, h3⟩)
  | 6, h, hx => exact h.imp id (fun h => by rw [show x' 32 = x 32 from hx]; exact JT.kept h hb)
  | 7, h, hx => show JT B c e (x' 25) w'; rw [show x' 25 = x 25 from hx]; exact JT.kept h hb
  | 8, h, hx => exact h.imp id (fun h => by rw [show x' 33 = x 33 from hx]; exact PD.kept h hb)
  | 9, h, hx => show PG B c e (x' 34) w'; rw [show x' 34 = x 34 from hx]; exact PG.kept h hb
  | 10, h, hx => exact hx.trans h
  | 11, h, hx => exact hx.trans h
  | 12, h, hx => obtain ⟨gm, h1, h2, h3⟩ := h; exact ⟨gm, h1, hx.trans h2, h3.imp id (fun h => row_kept h hb)⟩
  | 13, h, hx => obtain ⟨gm, d, h1, h2, h3, h4, h5⟩ := h; exact ⟨gm, d, h1, hx.trans h2, h3.kept hb, h4.kept hb, h5⟩
  | 14, h, hx => show PG B c e (x' 9) w'; rw [show x' 9 = x 9 from hx]; exact PG.kept h hb
  | 15, h, hx => exact hx.trans h
  | 16, h, hx => exact hx.trans h
  | _ + 17, _, _ => exact trivial
theorem FJ.put {B : Nat} {L c : Con} {bv kv pv : Value} {e : Ent} {i : Nat} {x : Nat → Value} {w w' : World} {g : Nat} {ob : Obj} (h : FJ B L c bv kv pv e false i x w) (hz : ZB w g) (hp : Put w g ob w') (hi : i ≠ 13) : FJ B L c bv kv pv e true i x w' := by
  match i, h with
  | 0, h => exact h
  | 1, h => exact h
  | 2, h => exact h
  | 3, h => exact h
  | 4, h => exact h
  | 5, h => exact .inl rfl
  | 6, h => exact .inl rfl
  | 7, h => obtain ⟨d, ad, cap, h1, h2, h3, h4⟩ := h; exact ⟨d, ad, cap, h1, NewC.putB h2 hp hz, h3.kept hp.grown (.inr (own_ne_box h3 hz (by decide))), h4⟩
  | 8, h => exact .inl rfl
  | 9, h => obtain ⟨ad, cap, h1, h2⟩ := h; exact ⟨ad, cap, h1, h2.kept hp.grown (.inr (own_ne_box h2 hz (by decide)))⟩
  | 10, h => exact h
  | 11, h => exact h
  | 12, h => obtain ⟨gm, h1, h2, h3⟩ := h; exact ⟨gm, h1, h2, .inl rfl⟩
  | 13, h => exact absurd rfl hi
  | 14, h => obtain ⟨ad, cap, h1, h2⟩ := h; exact ⟨ad, cap, h1, h2.kept hp.grown (.inr (own_ne_box h2 hz (by decide)))⟩
  | 15, h => exact h
  | 16, h => exact h
  | _ + 17, _ => exact trivial
theorem jreg6 {Q : Exit → Act → World → Prop} {id : Nat} {l : List Oper} {a0 : Act} {w0 : World} {t0 t1 t2 t3 t4 t5 t6 t7 t8 t9 t10 t11 t12 t13 t14 t15 t16 : TypeId} {p0 p1 p2 p3 p4 p5 p6 p7 p8 p9 p10 p11 p12 p13 p14 p15 p16 : String} {f0 f1 f2 f3 f4 f5 f6 f7 f8 f9 f10 f11 f12 f13 f14 f15 f16 : Array Edge} {s5 s6 : Array TypeId}
    (hl : l = [{ dst := some 26, op := .load 25 (.tmp 7), type := t0, pos := p0, after := f0, guard := none },
      { dst := some 27, op := .move (.tmp 1), type := t1, pos := p1, after := f1, guard := none },
      { dst := some 28, op := .move (.tmp 6), type := t2, pos := p2, after := f2, guard := none },
      { dst := some 29, op := .indexAddr 23 (.tmp 27) (.tmp 28), type := t3, pos := p3, after := f3, guard := none },
      { dst := some 30, op := .load 33 (.tmp 29), type := t4, pos := p4, after := f4, guard := none },
      { dst := some 31, op := .call { callee := .value (.func 11), args := #[.tmp 30], argTypes := s5 }, type := t5, pos := p5, after := f5, guard := none },
      { dst := some 32, op := .call { callee := .value (.func 10), args := #[.tmp 26, .tmp 31], argTypes := s6 }, type := t6, pos := p6, after := f6, guard := none },
      { dst := some 25, op := .move (.tmp 32), type := t7, pos := p7, after := f7, guard := none },
      { dst := some 33, op := .extract (.tmp 25) 0, type := t8, pos := p8, after := f8, guard := none },
      { dst := some 34, op := .extract (.tmp 25) 1, type := t9, pos := p9, after := f9, guard := none },
      { dst := some 35, op := .extract (.tmp 25) 2, type := t10, pos := p10, after := f10, guard := none },
      { dst := some 36, op := .extract (.tmp 25) 3, type := t11, pos := p11, after := f11, guard := none },
      { dst := some 8, op := .alloc 25, type := t12, pos := p12, after := f12, guard := none },
      { dst := none, op := .store 25 (.tmp 8) (.tmp 33), type := t13, pos := p13, after := f13, guard := none },
      { dst := some 9, op := .assign (.tmp 34), type := t14, pos := p14, after := f14, guard := none },
      { dst := some 10, op := .assign (.tmp 35), type := t15, pos := p15, after := f15, guard := none },
      { dst := some 11, op := .assign (.tmp 36), type := t16, pos := p16, after := f16, guard := none }])
    (hF : stateB l.toArray 17 = true) (hD : depB l [(3, 1), (3, 2), (4, 3), (5, 4), (6, 0), (6, 5), (7, 6), (8, 7), (9, 7), (10, 7), (11, 7), (13, 12), (13, 8), (14, 9), (15, 10), (16, 11), (13, 0), (13, 1), (13, 2), (13, 3), (13, 4), (13, 5), (13, 6), (13, 7)] = true)
    (hsz : 36 < a0.tmps.size)
    (gb : Nat) (hbx : a0.eval (.tmp 7) = .pointer (some ⟨gb, 0, none⟩)) (L c : Con) (hbox : Box w0 gb L) (hL : ConOk w0 L) (hLd : L.d = c.d)
    (X : Ens) (hX : EnsOk w0 X) (k : Nat) (hk : k < X.es.length) (hm1 : a0.eval (.tmp 1) = X.v) (hm6 : a0.eval (.tmp 6) = .int .i64 k)
    (hend : ∀ x w gm d ad cap, Below w0.heap.size w0 w → w0.heap.size ≤ gm → x 8 = .pointer (some ⟨gm, 0, none⟩) → Box w gm d → NewC w0.heap.size w d → d.d = joinDs c (X.es[k]) → x 9 = .slice ad (joinGs c (X.es[k])).length cap →
      w.ownsRow w0.heap.size 64 3 (.slice ad (joinGs c (X.es[k])).length cap) (joinGs c (X.es[k])).length (gFlat (joinGs c (X.es[k]))) → x 10 = .bool false → x 11 = .int .i64 (c.joinV' (X.es[k])) → wpList Try.prog l.toArray Q [] (putsF a0 [26, 27, 28, 29, 30, 31, 32, 25, 33, 34, 35, 36, 8, 9, 10, 11] x) w)
    : (Code.region id l.toArray true).wp Try.prog Q a0 w0 := by
  subst hl
  obtain ⟨bb, bo, hXa, _⟩ := ent_at hX.sl k hk
  have hXv : X.v = .slice (some ⟨bb, bo, none⟩) X.es.length X.c := by unfold Ens.v; rw [hXa]
  refine wp_region_state 17 (fun f a w => ∃ x, a = putsF a0 [26, 27, 28, 29, 30, 31, 32, 25, 33, 34, 35, 36, 8, 9, 10, 11] x ∧ Below w0.heap.size w0 w ∧ (f 13 = true → ∀ j, j ∈ [0, 1, 2, 3, 4, 5, 6, 7, 8, 12] → f j = true) ∧ ∀ i, i < 17 → f i = true → FJ w0.heap.size L c X.v (.int .i64 k) (.pointer (some ⟨bb, bo + k * 5, none⟩)) (X.es[k]) (f 13) i x w) (by kernel_rfl) hF
    ⟨_, putsF_self _ [26, 27, 28, 29, 30, 31, 32, 25, 33, 34, 35, 36, 8, 9, 10, 11], (Qt.drewN w0 1).below _, (fun h => Bool.noConfusion h), fun i _ h => Bool.noConfusion h⟩ ?_ ?_
  · rintro f a w i o ⟨x, rfl, hbel, hcl, hall⟩ ho hip hfi hdep
    have e7 : (putsF a0 [26, 27, 28, 29, 30, 31, 32, 25, 33, 34, 35, 36, 8, 9, 10, 11] x).eval (.tmp 7) = a0.eval (.tmp 7) := by rw [putsF_eval _ _ _ 7 (by omega), if_neg (by decide)]
    have e1 : (putsF a0 [26, 27, 28, 29, 30, 31, 32, 25, 33, 34, 35, 36, 8, 9, 10, 11] x).eval (.tmp 1) = a0.eval (.tmp 1) := by rw [putsF_eval _ _ _ 1 (by omega), if_neg (by decide)]
    have e6 : (putsF a0 [26, 27, 28, 29, 30, 31, 32, 25, 33, 34, 35, 36, 8, 9, 10, 11] x).eval (.tmp 6) = a0.eval (.tmp 6) := by rw [putsF_eval _ _ _ 6 (by omega), if_neg (by decide)]
    have hev : ∀ t : Nat, t ∈ [26, 27, 28, 29, 30, 31, 32, 25, 33, 34, 35, 36, 8, 9, 10, 11] → t ≤ 36 → (putsF a0 [26, 27, 28, 29, 30, 31, 32, 25, 33, 34, 35, 36, 8, 9, 10, 11] x).eval (.tmp t) = x t := fun t ht h => by rw [putsF_eval _ _ _ t (by omega), if_pos ht]
    have hLw := hL.kept hbel
    have hg := hbel.size
    have hxk := hX.kept hbel
    have hK : ∀ (v : Value) (w' : World), i ≠ 13 → Below w.heap.size w w' → FJ w0.heap.size L c X.v (.int .i64 k) (.pointer (some ⟨bb, bo + k * 5, none⟩)) (X.es[k]) (f 13) i (upd x ([26, 27, 28, 29, 30, 31, 32, 25, 33, 34, 35, 36, 8, 8, 9, 10, 11].getD i 0) v) w' → (fun a' w' => ∃ x, a' = putsF a0 [26, 27, 28, 29, 30, 31, 32, 25, 33, 34, 35, 36, 8, 9, 10, 11] x ∧ Below w0.heap.size w0 w' ∧ ((if 13 = i then true else f 13) = true → ∀ j, j ∈ [0, 1, 2, 3, 4, 5, 6, 7, 8, 12] → (if j = i then true else f j) = true) ∧ ∀ j, j < 17 → (if j = i then true else f j) = true → FJ w0.heap.size L c X.v (.int .i64 k) (.pointer (some ⟨bb, bo + k * 5, none⟩)) (X.es[k]) (if 13 = i then true else f 13) j x w') ((putsF a0 [26, 27, 28, 29, 30, 31, 32, 25, 33, 34, 35, 36, 8, 9, 10, 11] x).put (some ([26, 27, 28, 29, 30, 31, 32, 25, 33, 34, 35, 36, 8, 8, 9, 10, 11].getD i 0)) v) w' := by
      intro v w' hi hb hF
      have hmem : ∀ i, i < 17 → [26, 27, 28, 29, 30, 31, 32, 25, 33, 34, 35, 36, 8, 8, 9, 10, 11].getD i 0 ∈ [26, 27, 28, 29, 30, 31, 32, 25, 33, 34, 35, 36, 8, 9, 10, 11] := by decide
      have hinj : ∀ i, i < 17 → ∀ j, j < 17 → (i = 13 ∨ j = i ∨ (j = 13 ∧ i = 12)) ∨ [26, 27, 28, 29, 30, 31, 32, 25, 33, 34, 35, 36, 8, 8, 9, 10, 11].getD j 0 ≠ [26, 27, 28, 29, 30, 31, 32, 25, 33, 34, 35, 36, 8, 8, 9, 10, 11].getD i 0 := by decide
      rw [if_neg (fun h => hi h.symm)]
      refine ⟨upd x ([26, 27, 28, 29, 30, 31, 32, 25, 33, 34, 35, 36, 8, 8, 9, 10, 11].getD i 0) v, putsF_put _ _ _ _ _ (hmem i hip), hbel.trans (hb.mono hg), (fun h j hj => ?_), fun j hj hfj => ?_⟩
      · split
        · rfl
        · exact hcl h j hj
      · by_cases e : j = i
        · subst e; exact hF
        · rw [if_neg e] at hfj
          refine FJ.mono (hall j hj hfj) ?_ hb
          have hne := (hinj i hip j hj).resolve_left (fun hc => by rcases hc with hc | hc | ⟨e1, e2⟩; exact hi hc; exact e hc; subst e1 e2; rw [hcl hfj 12 (by decide)] at hfi; cases hfi)
          simp only [upd, if_neg hne]
    have hd : ∀ j, ([(3, 1), (3, 2), (4, 3), (5, 4), (6, 0), (6, 5), (7, 6), (8, 7), (9, 7), (10, 7), (11, 7), (13, 12), (13, 8), (14, 9), (15, 10), (16, 11), (13, 0), (13, 1), (13, 2), (13, 3), (13, 4), (13, 5), (13, 6), (13, 7)] : List (Nat × Nat)).contains (i, j) = true → f j = true := fun j hj => depB_spec hD (by simpa using hj) ho hdep
    rcases (by omega : i = 0 ∨ i = 1 ∨ i = 2 ∨ i = 3 ∨ i = 4 ∨ i = 5 ∨ i = 6 ∨ i = 7 ∨ i = 8 ∨ i = 9 ∨ i = 10 ∨ i = 11 ∨ i = 12 ∨ i = 13 ∨ i = 14 ∨ i = 15 ∨ i = 16) with rfl | rfl | rfl | rfl | rfl | rfl | rfl | rfl | rfl | rfl | rfl | rfl | rfl | rfl | rfl | rfl | rfl
    · skip
      exact op_load25 (.tmp 7) rfl (e7.trans hbx) (hbox.kept hbel) szC (hK _ _ (by decide) (Below.refl _ _) rfl)
    · skip
      exact op_pure _ rfl rfl (ex_move (e1.trans hm1)) (hK _ _ (by decide) (Below.refl _ _) rfl)
    · skip
      exact op_pure _ rfl rfl (ex_move (e6.trans hm6)) (hK _ _ (by decide) (Below.refl _ _) rfl)
    · skip
      have ha := hall 1 (by decide) (hd 1 (by kernel_rfl))
      have hb := hall 2 (by decide) (hd 2 (by kernel_rfl))
      exact op_pure _ rfl rfl (ex_index ((hev 27 (by decide) (by decide)).trans (Eq.trans ha hXv)) ((hev 28 (by decide) (by decide)).trans hb) hk) (hK _ _ (by decide) (Below.refl _ _) rfl)
    · skip
      have ha := hall 3 (by decide) (hd 3 (by kernel_rfl))
      obtain ⟨b', o', hq, c0, c1, c2, c3, c4⟩ := ent_at hxk.sl k hk
      rw [hXa] at hq
      cases hq
      exact op_pure _ rfl rfl (ex_load33 ((hev 29 (by decide) (by decide)).trans ha) c0 c1 c2 c3 c4) (hK _ _ (by decide) (Below.refl _ _) rfl)
    · skip
      have ha := hall 4 (by decide) (hd 4 (by kernel_rfl))
      exact op_call 11 30 _ s5 rfl enter11 ((hev 30 (by decide) (by decide)).trans ha) ((lentE_piece _ w (hxk.ents _ (List.getElem_mem hk))).mono fun r w' ⟨ll, hr, hL, hbl⟩ => ⟨_, hr, hK _ _ (by decide) hbl (.inr ⟨ll, rfl, hL.mark.ok, hL.d⟩)⟩)
    · skip
      have ha := hall 0 (by decide) (hd 0 (by kernel_rfl))
      have hb := hall 5 (by decide) (hd 5 (by kernel_rfl))
      by_cases hst : f 13 = true
      · exact absurd (hcl hst 6 (by decide)) (by rw [hfi]; decide)
      · rw [Bool.not_eq_true] at hst
        obtain ⟨y2, hy2, hy2o, hy2d⟩ := hb.resolve_left (by rw [hst]; decide)
        exact op_call2 10 26 31 _ _ s6 rfl enter10 ((hev 26 (by decide) (by decide)).trans ha) ((hev 31 (by decide) (by decide)).trans hy2) ((join_piece L c y2 _ w hLw hy2o hLd hy2d).mono fun r w' hj => by obtain ⟨v, h1, h2, h3⟩ := JT.of (B := w0.heap.size) hj hg; exact ⟨v, h1, hK _ _ (by decide) h3 (.inr h2)⟩)
    · skip
      have ha := hall 6 (by decide) (hd 6 (by kernel_rfl))
      by_cases hst : f 13 = true
      · exact absurd (hcl hst 7 (by decide)) (by rw [hfi]; decide)
      · rw [Bool.not_eq_true] at hst
        have ha := ha.resolve_left (by rw [hst]; decide)
        obtain ⟨d, ad, cap, h1, h2⟩ := ha
        exact op_pure _ rfl rfl (ex_move ((hev 32 (by decide) (by decide)).trans h1)) (hK _ _ (by decide) (Below.refl _ _) ⟨d, ad, cap, rfl, h2⟩)
    · skip
      have ha := hall 7 (by decide) (hd 7 (by kernel_rfl))
      obtain ⟨d, ad, cap, h1, h2, h3, h4⟩ := ha
      exact op_pure _ rfl rfl (ex_extract ((hev 25 (by decide) (by decide)).trans h1) rfl) (hK _ _ (by decide) (Below.refl _ _) (.inr ⟨d, rfl, h2, h4⟩))
    · skip
      have ha := hall 7 (by decide) (hd 7 (by kernel_rfl))
      obtain ⟨d, ad, cap, h1, h2, h3, h4⟩ := ha
      exact op_pure _ rfl rfl (ex_extract ((hev 25 (by decide) (by decide)).trans h1) rfl) (hK _ _ (by decide) (Below.refl _ _) ⟨ad, cap, rfl, h3⟩)
    · skip
      have ha := hall 7 (by decide) (hd 7 (by kernel_rfl))
      obtain ⟨d, ad, cap, h1, h2, h3, h4⟩ := ha
      exact op_pure _ rfl rfl (ex_extract ((hev 25 (by decide) (by decide)).trans h1) rfl) (hK _ _ (by decide) (Below.refl _ _) rfl)
    · skip
      have ha := hall 7 (by decide) (hd 7 (by kernel_rfl))
      obtain ⟨d, ad, cap, h1, h2, h3, h4⟩ := ha
      exact op_pure _ rfl rfl (ex_extract ((hev 25 (by decide) (by decide)).trans h1) rfl) (hK _ _ (by decide) (Below.refl _ _) rfl)
    · skip
      exact op_alloc25 rfl (hK _ _ (by decide) ((Below.refl _ _).alloc (Nat.le_refl _) _) ⟨w.heap.size, hg, rfl, .inr (alloc_at rfl)⟩)
    · skip
      have ha := hall 12 (by decide) (hd 12 (by kernel_rfl))
      have hb := hall 8 (by decide) (hd 8 (by kernel_rfl))
      rw [hfi] at ha hb
      obtain ⟨gm, hm1', hm2, hm3⟩ := ha
      have hz := hm3.resolve_left (by decide)
      obtain ⟨d, hb1, hb2, hb3⟩ := hb.resolve_left (by decide)
      refine op_store25 _ _ rfl hz ((hev 8 (by decide) (by decide)).trans hm2) ((hev 33 (by decide) (by decide)).trans hb1) (fun W hp => ?_)
      refine ⟨x, rfl, hp.below hbel hg hm1', (fun _ j hj => ?_), fun j hj hfj => ?_⟩
      · show (if j = 13 then true else f j) = true
        split
        · rfl
        · have hj2 : ∀ j, j ∈ ([0, 1, 2, 3, 4, 5, 6, 7, 8, 12] : List Nat) → ([(3, 1), (3, 2), (4, 3), (5, 4), (6, 0), (6, 5), (7, 6), (8, 7), (9, 7), (10, 7), (11, 7), (13, 12), (13, 8), (14, 9), (15, 10), (16, 11), (13, 0), (13, 1), (13, 2), (13, 3), (13, 4), (13, 5), (13, 6), (13, 7)] : List (Nat × Nat)).contains (13, j) = true := List.all_eq_true.1 (by kernel_rfl)
          exact hd j (hj2 j hj)
      · show FJ w0.heap.size L c X.v (.int .i64 k) (.pointer (some ⟨bb, bo + k * 5, none⟩)) (X.es[k]) (if 13 = 13 then true else f 13) j x W
        rw [if_pos rfl]
        have hfj : (if j = 13 then true else f j) = true := hfj
        by_cases e : j = 13
        · subst e; exact ⟨gm, d, hm1', hm2, hp.at', NewC.putB hb2 hp hz, hb3⟩
        · rw [if_neg e] at hfj
          have hj2 := hall j hj hfj
          rw [hfi] at hj2
          exact FJ.put hj2 hz hp e
    · skip
      have ha := hall 9 (by decide) (hd 9 (by kernel_rfl))
      obtain ⟨ad, cap, h1, h2⟩ := ha
      exact op_pure _ rfl rfl (ex_assign ((hev 34 (by decide) (by decide)).trans h1)) (hK _ _ (by decide) (Below.refl _ _) ⟨ad, cap, rfl, h2⟩)
    · skip
      have ha := hall 10 (by decide) (hd 10 (by kernel_rfl))
      exact op_pure _ rfl rfl (ex_assign ((hev 35 (by decide) (by decide)).trans ha)) (hK _ _ (by decide) (Below.refl _ _) rfl)
    · skip
      have ha := hall 11 (by decide) (hd 11 (by kernel_rfl))
      exact op_pure _ rfl rfl (ex_assign ((hev 36 (by decide) (by decide)).trans ha)) (hK _ _ (by decide) (Below.refl _ _) rfl)
  · rintro f a w ⟨x, rfl, hbel, hcl, hall⟩ hf
    obtain ⟨gm, d, h1, h2, h3, h4, h5⟩ := hall 13 (by decide) (hf _ (by decide))
    obtain ⟨ad, cap, h6, h7⟩ := hall 14 (by decide) (hf _ (by decide))
    exact hend x w gm d ad cap hbel h1 h2 h3 h4 h5 h6 h7 (hall 15 (by decide) (hf _ (by decide))) (hall 16 (by decide) (hf _ (by decide)))
def FR (B : Nat) (L c : Con) (bv kv pv : Value) (e : Ent) (s : Bool) (i : Nat) (x : Nat → Value) (W : World) : Prop :=
  match i with
  | 0 => x 38 = L.agg
  | 1 => x 39 = bv
  | 2 => x 40 = kv
  | 3 => x 41 = pv
  | 4 => x 42 = e.agg
  | 5 => s = true ∨ JT B c e (x 43) W
  | 6 => JT B c e (x 37) W
  | 7 => s = true ∨ PD B c e (x 44) W
  | 8 => PG B c e (x 45) W
  | 9 => x 46 = .bool false
  | 10 => x 47 = .int .i64 (c.joinV' e)
  | 11 => ∃ gm, B ≤ gm ∧ x 12 = .pointer (some ⟨gm, 0, none⟩) ∧ (s = true ∨ ZB W gm)
  | 12 => ∃ gm d, B ≤ gm ∧ x 12 = .pointer (some ⟨gm, 0, none⟩) ∧ Box W gm d ∧ NewC B W d ∧ d.d = joinDs c e
  | 13 => PG B c e (x 13) W
  | 14 => x 14 = .bool false
  | 15 => x 15 = .int .i64 (c.joinV' e)
  | _ => True
theorem FR.mono {B : Nat} {L c : Con} {bv kv pv : Value} {e : Ent} {s : Bool} {i : Nat} {x x' : Nat → Value} {w w' : World} (h : FR B L c bv kv pv e s i x w) (hx : x' ([38, 39, 40, 41, 42, 43, 37, 44, 45, 46, 47, 12, 12, 13, 14, 15].getD i 0) = x ([38, 39, 40, 41, 42, 43, 37, 44, 45, 46, 47, 12, 12, 13, 14, 15].getD i 0)) (hb : Below w.heap.size w w') : FR B L c bv kv pv e s i x' w' := by
  match i, h, hx with
  | 0, h, hx => exact hx.trans h
  | 1, h, hx => exact hx.trans h
  | 2, h, hx => exact hx.trans h
  | 3, h, hx => exact hx.trans h
  | 4, h, hx => exact hx.trans h
  | 5, h, hx => exact h.imp id (fun h => by rw [show x' 43 = x 43 from hx]; exact JT.kept h hb)
  | 6, h, hx => show JT B c e (x' 37) w'; rw [show x' 37 = x 37 from hx]; exact JT.kept h hb
  | 7, h, hx => exact h.imp id (fun h => by rw [show x' 44 = x 44 from hx]; exact PD.kept h hb)
  | 8, h, hx => show PG B c e (x' 45) w'; rw [show x' 45 = x 45 from hx]; exact PG.kept h hb
  | 9, h, hx => exact hx.trans h
  | 10, h, hx => exact hx.trans h
  | 11, h, hx => obtain ⟨gm, h1, h2, h3⟩ := h; exact ⟨gm, h1, hx.trans h2, h3.imp id (fun h => row_kept h hb)⟩
  | 12, h, hx => obtain ⟨gm, d, h1, h2, h3, h4, h5⟩ := h; exact ⟨gm, d, h1, hx.trans h2, h3.kept hb, h4.kept hb, h5⟩
  | 13, h, hx => show PG B c e (x' 13) w'; rw [show x' 13 = x 13 from hx]; exact PG.kept h hb
  | 14, h, hx => exact hx.trans h
  | 15, h, hx => exact hx.trans h
  | _ + 16, _, _ => exact trivial
theorem FR.put {B : Nat} {L c : Con} {bv kv pv : Value} {e : Ent} {i : Nat} {x : Nat → Value} {w w' : World} {g : Nat} {ob : Obj} (h : FR B L c bv kv pv e false i x w) (hz : ZB w g) (hp : Put w g ob w') (hi : i ≠ 12) : FR B L c bv kv pv e true i x w' := by
  match i, h with
  | 0, h => exact h
  | 1, h => exact h
  | 2, h => exact h
  | 3, h => exact h
  | 4, h => exact h
  | 5, h => exact .inl rfl
  | 6, h => obtain ⟨d, ad, cap, h1, h2, h3, h4⟩ := h; exact ⟨d, ad, cap, h1, NewC.putB h2 hp hz, h3.kept hp.grown (.inr (own_ne_box h3 hz (by decide))), h4⟩
  | 7, h => exact .inl rfl
  | 8, h => obtain ⟨ad, cap, h1, h2⟩ := h; exact ⟨ad, cap, h1, h2.kept hp.grown (.inr (own_ne_box h2 hz (by decide)))⟩
  | 9, h => exact h
  | 10, h => exact h
  | 11, h => obtain ⟨gm, h1, h2, h3⟩ := h; exact ⟨gm, h1, h2, .inl rfl⟩
  | 12, h => exact absurd rfl hi
  | 13, h => obtain ⟨ad, cap, h1, h2⟩ := h; exact ⟨ad, cap, h1, h2.kept hp.grown (.inr (own_ne_box h2 hz (by decide)))⟩
  | 14, h => exact h
  | 15, h => exact h
  | _ + 16, _ => exact trivial
theorem jreg7 {Q : Exit → Act → World → Prop} {id : Nat} {l : List Oper} {a0 : Act} {w0 : World} {t0 t1 t2 t3 t4 t5 t6 t7 t8 t9 t10 t11 t12 t13 t14 t15 : TypeId} {p0 p1 p2 p3 p4 p5 p6 p7 p8 p9 p10 p11 p12 p13 p14 p15 : String} {f0 f1 f2 f3 f4 f5 f6 f7 f8 f9 f10 f11 f12 f13 f14 f15 : Array Edge} {s5 : Array TypeId}
    (hl : l = [{ dst := some 38, op := .load 25 (.tmp 5), type := t0, pos := p0, after := f0, guard := none },
      { dst := some 39, op := .move (.tmp 1), type := t1, pos := p1, after := f1, guard := none },
      { dst := some 40, op := .move (.tmp 6), type := t2, pos := p2, after := f2, guard := none },
      { dst := some 41, op := .indexAddr 23 (.tmp 39) (.tmp 40), type := t3, pos := p3, after := f3, guard := none },
      { dst := some 42, op := .load 33 (.tmp 41), type := t4, pos := p4, after := f4, guard := none },
      { dst := some 43, op := .call { callee := .value (.func 12), args := #[.tmp 38, .tmp 42], argTypes := s5 }, type := t5, pos := p5, after := f5, guard := none },
      { dst := some 37, op := .move (.tmp 43), type := t6, pos := p6, after := f6, guard := none },
      { dst := some 44, op := .extract (.tmp 37) 0, type := t7, pos := p7, after := f7, guard := none },
      { dst := some 45, op := .extract (.tmp 37) 1, type := t8, pos := p8, after := f8, guard := none },
      { dst := some 46, op := .extract (.tmp 37) 2, type := t9, pos := p9, after := f9, guard := none },
      { dst := some 47, op := .extract (.tmp 37) 3, type := t10, pos := p10, after := f10, guard := none },
      { dst := some 12, op := .alloc 25, type := t11, pos := p11, after := f11, guard := none },
      { dst := none, op := .store 25 (.tmp 12) (.tmp 44), type := t12, pos := p12, after := f12, guard := none },
      { dst := some 13, op := .assign (.tmp 45), type := t13, pos := p13, after := f13, guard := none },
      { dst := some 14, op := .assign (.tmp 46), type := t14, pos := p14, after := f14, guard := none },
      { dst := some 15, op := .assign (.tmp 47), type := t15, pos := p15, after := f15, guard := none }])
    (hF : stateB l.toArray 16 = true) (hD : depB l [(3, 1), (3, 2), (4, 3), (5, 0), (5, 4), (6, 5), (7, 6), (8, 6), (9, 6), (10, 6), (12, 11), (12, 7), (13, 8), (14, 9), (15, 10), (12, 0), (12, 1), (12, 2), (12, 3), (12, 4), (12, 5), (12, 6)] = true)
    (hsz : 47 < a0.tmps.size)
    (gb : Nat) (hbx : a0.eval (.tmp 5) = .pointer (some ⟨gb, 0, none⟩)) (L c : Con) (hbox : Box w0 gb L) (hL : ConOk w0 L) (hLd : L.d = c.d) (hLc : L = c)
    (X : Ens) (hX : EnsOk w0 X) (k : Nat) (hk : k < X.es.length) (hm1 : a0.eval (.tmp 1) = X.v) (hm6 : a0.eval (.tmp 6) = .int .i64 k)
    (hend : ∀ x w gm d ad cap, Below w0.heap.size w0 w → w0.heap.size ≤ gm → x 12 = .pointer (some ⟨gm, 0, none⟩) → Box w gm d → NewC w0.heap.size w d → d.d = joinDs c (X.es[k]) → x 13 = .slice ad (joinGs c (X.es[k])).length cap →
      w.ownsRow w0.heap.size 64 3 (.slice ad (joinGs c (X.es[k])).length cap) (joinGs c (X.es[k])).length (gFlat (joinGs c (X.es[k]))) → x 14 = .bool false → x 15 = .int .i64 (c.joinV' (X.es[k])) → wpList Try.prog l.toArray Q [] (putsF a0 [38, 39, 40, 41, 42, 43, 37, 44, 45, 46, 47, 12, 13, 14, 15] x) w)
    : (Code.region id l.toArray true).wp Try.prog Q a0 w0 := by
  subst hl
  obtain ⟨bb, bo, hXa, _⟩ := ent_at hX.sl k hk
  have hXv : X.v = .slice (some ⟨bb, bo, none⟩) X.es.length X.c := by unfold Ens.v; rw [hXa]
  refine wp_region_state 16 (fun f a w => ∃ x, a = putsF a0 [38, 39, 40, 41, 42, 43, 37, 44, 45, 46, 47, 12, 13, 14, 15] x ∧ Below w0.heap.size w0 w ∧ (f 12 = true → ∀ j, j ∈ [0, 1, 2, 3, 4, 5, 6, 7, 11] → f j = true) ∧ ∀ i, i < 16 → f i = true → FR w0.heap.size L c X.v (.int .i64 k) (.pointer (some ⟨bb, bo + k * 5, none⟩)) (X.es[k]) (f 12) i x w) (by kernel_rfl) hF
    ⟨_, putsF_self _ [38, 39, 40, 41, 42, 43, 37, 44, 45, 46, 47, 12, 13, 14, 15], (Qt.drewN w0 1).below _, (fun h => Bool.noConfusion h), fun i _ h => Bool.noConfusion h⟩ ?_ ?_
  · rintro f a w i o ⟨x, rfl, hbel, hcl, hall⟩ ho hip hfi hdep
    have e5 : (putsF a0 [38, 39, 40, 41, 42, 43, 37, 44, 45, 46, 47, 12, 13, 14, 15] x).eval (.tmp 5) = a0.eval (.tmp 5) := by rw [putsF_eval _ _ _ 5 (by omega), if_neg (by decide)]
    have e1 : (putsF a0 [38, 39, 40, 41, 42, 43, 37, 44, 45, 46, 47, 12, 13, 14, 15] x).eval (.tmp 1) = a0.eval (.tmp 1) := by rw [putsF_eval _ _ _ 1 (by omega), if_neg (by decide)]
    have e6 : (putsF a0 [38, 39, 40, 41, 42, 43, 37, 44, 45, 46, 47, 12, 13, 14, 15] x).eval (.tmp 6) = a0.eval (.tmp 6) := by rw [putsF_eval _ _ _ 6 (by omega), if_neg (by decide)]
    have hev : ∀ t : Nat, t ∈ [38, 39, 40, 41, 42, 43, 37, 44, 45, 46, 47, 12, 13, 14, 15] → t ≤ 47 → (putsF a0 [38, 39, 40, 41, 42, 43, 37, 44, 45, 46, 47, 12, 13, 14, 15] x).eval (.tmp t) = x t := fun t ht h => by rw [putsF_eval _ _ _ t (by omega), if_pos ht]
    have hLw := hL.kept hbel
    have hg := hbel.size
    have hxk := hX.kept hbel
    have hK : ∀ (v : Value) (w' : World), i ≠ 12 → Below w.heap.size w w' → FR w0.heap.size L c X.v (.int .i64 k) (.pointer (some ⟨bb, bo + k * 5, none⟩)) (X.es[k]) (f 12) i (upd x ([38, 39, 40, 41, 42, 43, 37, 44, 45, 46, 47, 12, 12, 13, 14, 15].getD i 0) v) w' → (fun a' w' => ∃ x, a' = putsF a0 [38, 39, 40, 41, 42, 43, 37, 44, 45, 46, 47, 12, 13, 14, 15] x ∧ Below w0.heap.size w0 w' ∧ ((if 12 = i then true else f 12) = true → ∀ j, j ∈ [0, 1, 2, 3, 4, 5, 6, 7, 11] → (if j = i then true else f j) = true) ∧ ∀ j, j < 16 → (if j = i then true else f j) = true → FR w0.heap.size L c X.v (.int .i64 k) (.pointer (some ⟨bb, bo + k * 5, none⟩)) (X.es[k]) (if 12 = i then true else f 12) j x w') ((putsF a0 [38, 39, 40, 41, 42, 43, 37, 44, 45, 46, 47, 12, 13, 14, 15] x).put (some ([38, 39, 40, 41, 42, 43, 37, 44, 45, 46, 47, 12, 12, 13, 14, 15].getD i 0)) v) w' := by
      intro v w' hi hb hF
      have hmem : ∀ i, i < 16 → [38, 39, 40, 41, 42, 43, 37, 44, 45, 46, 47, 12, 12, 13, 14, 15].getD i 0 ∈ [38, 39, 40, 41, 42, 43, 37, 44, 45, 46, 47, 12, 13, 14, 15] := by decide
      have hinj : ∀ i, i < 16 → ∀ j, j < 16 → (i = 12 ∨ j = i ∨ (j = 12 ∧ i = 11)) ∨ [38, 39, 40, 41, 42, 43, 37, 44, 45, 46, 47, 12, 12, 13, 14, 15].getD j 0 ≠ [38, 39, 40, 41, 42, 43, 37, 44, 45, 46, 47, 12, 12, 13, 14, 15].getD i 0 := by decide
      rw [if_neg (fun h => hi h.symm)]
      refine ⟨upd x ([38, 39, 40, 41, 42, 43, 37, 44, 45, 46, 47, 12, 12, 13, 14, 15].getD i 0) v, putsF_put _ _ _ _ _ (hmem i hip), hbel.trans (hb.mono hg), (fun h j hj => ?_), fun j hj hfj => ?_⟩
      · split
        · rfl
        · exact hcl h j hj
      · by_cases e : j = i
        · subst e; exact hF
        · rw [if_neg e] at hfj
          refine FR.mono (hall j hj hfj) ?_ hb
          have hne := (hinj i hip j hj).resolve_left (fun hc => by rcases hc with hc | hc | ⟨e1, e2⟩; exact hi hc; exact e hc; subst e1 e2; rw [hcl hfj 11 (by decide)] at hfi; cases hfi)
          simp only [upd, if_neg hne]
    have hd : ∀ j, ([(3, 1), (3, 2), (4, 3), (5, 0), (5, 4), (6, 5), (7, 6), (8, 6), (9, 6), (10, 6), (12, 11), (12, 7), (13, 8), (14, 9), (15, 10), (12, 0), (12, 1), (12, 2), (12, 3), (12, 4), (12, 5), (12, 6)] : List (Nat × Nat)).contains (i, j) = true → f j = true := fun j hj => depB_spec hD (by simpa using hj) ho hdep
    rcases (by omega : i = 0 ∨ i = 1 ∨ i = 2 ∨ i = 3 ∨ i = 4 ∨ i = 5 ∨ i = 6 ∨ i = 7 ∨ i = 8 ∨ i = 9 ∨ i = 10 ∨ i = 11 ∨ i = 12 ∨ i = 13 ∨ i = 14 ∨ i = 15) with rfl | rfl | rfl | rfl | rfl | rfl | rfl | rfl | rfl | rfl | rfl | rfl | rfl | rfl | rfl | rfl
    · skip
      exact op_load25 (.tmp 5) rfl (e5.trans hbx) (hbox.kept hbel) szC (hK _ _ (by decide) (Below.refl _ _) rfl)
    · skip
      exact op_pure _ rfl rfl (ex_move (e1.trans hm1)) (hK _ _ (by decide) (Below.refl _ _) rfl)
    · skip
      exact op_pure _ rfl rfl (ex_move (e6.trans hm6)) (hK _ _ (by decide) (Below.refl _ _) rfl)
    · skip
      have ha := hall 1 (by decide) (hd 1 (by kernel_rfl))
      have hb := hall 2 (by decide) (hd 2 (by kernel_rfl))
      exact op_pure _ rfl rfl (ex_index ((hev 39 (by decide) (by decide)).trans (Eq.trans ha hXv)) ((hev 40 (by decide) (by decide)).trans hb) hk) (hK _ _ (by decide) (Below.refl _ _) rfl)
    · skip
      have ha := hall 3 (by decide) (hd 3 (by kernel_rfl))
      obtain ⟨b', o', hq, c0, c1, c2, c3, c4⟩ := ent_at hxk.sl k hk
      rw [hXa] at hq
      cases hq
      exact op_pure _ rfl rfl (ex_load33 ((hev 41 (by decide) (by decide)).trans ha) c0 c1 c2 c3 c4) (hK _ _ (by decide) (Below.refl _ _) rfl)
    · skip
      have ha := hall 0 (by decide) (hd 0 (by kernel_rfl))
      have hb := hall 4 (by decide) (hd 4 (by kernel_rfl))
      by_cases hst : f 12 = true
      · exact absurd (hcl hst 5 (by decide)) (by rw [hfi]; decide)
      · rw [Bool.not_eq_true] at hst
        obtain rfl : L = c := hLc
        exact op_call2 12 38 42 _ _ s5 rfl enter12 ((hev 38 (by decide) (by decide)).trans ha) ((hev 42 (by decide) (by decide)).trans hb) ((rjoin_piece L _ w hLw (hxk.ents _ (List.getElem_mem hk))).mono fun r w' hj => by obtain ⟨v, h1, h2, h3⟩ := JT.of (B := w0.heap.size) hj hg; exact ⟨v, h1, hK _ _ (by decide) h3 (.inr h2)⟩)
    · skip
      have ha := hall 5 (by decide) (hd 5 (by kernel_rfl))
      by_cases hst : f 12 = true
      · exact absurd (hcl hst 6 (by decide)) (by rw [hfi]; decide)
      · rw [Bool.not_eq_true] at hst
        have ha := ha.resolve_left (by rw [hst]; decide)
        obtain ⟨d, ad, cap, h1, h2⟩ := ha
        exact op_pure _ rfl rfl (ex_move ((hev 43 (by decide) (by decide)).trans h1)) (hK _ _ (by decide) (Below.refl _ _) ⟨d, ad, cap, rfl, h2⟩)
    · skip
      have ha := hall 6 (by decide) (hd 6 (by kernel_rfl))
      obtain ⟨d, ad, cap, h1, h2, h3, h4⟩ := ha
      exact op_pure _ rfl rfl (ex_extract ((hev 37 (by decide) (by decide)).trans h1) rfl) (hK _ _ (by decide) (Below.refl _ _) (.inr ⟨d, rfl, h2, h4⟩))
    · skip
      have ha := hall 6 (by decide) (hd 6 (by kernel_rfl))
      obtain ⟨d, ad, cap, h1, h2, h3, h4⟩ := ha
      exact op_pure _ rfl rfl (ex_extract ((hev 37 (by decide) (by decide)).trans h1) rfl) (hK _ _ (by decide) (Below.refl _ _) ⟨ad, cap, rfl, h3⟩)
    · skip
      have ha := hall 6 (by decide) (hd 6 (by kernel_rfl))
      obtain ⟨d, ad, cap, h1, h2, h3, h4⟩ := ha
      exact op_pure _ rfl rfl (ex_extract ((hev 37 (by decide) (by decide)).trans h1) rfl) (hK _ _ (by decide) (Below.refl _ _) rfl)
    · skip
      have ha := hall 6 (by decide) (hd 6 (by kernel_rfl))
      obtain ⟨d, ad, cap, h1, h2, h3, h4⟩ := ha
      exact op_pure _ rfl rfl (ex_extract ((hev 37 (by decide) (by decide)).trans h1) rfl) (hK _ _ (by decide) (Below.refl _ _) rfl)
    · skip
      exact op_alloc25 rfl (hK _ _ (by decide) ((Below.refl _ _).alloc (Nat.le_refl _) _) ⟨w.heap.size, hg, rfl, .inr (alloc_at rfl)⟩)
    · skip
      have ha := hall 11 (by decide) (hd 11 (by kernel_rfl))
      have hb := hall 7 (by decide) (hd 7 (by kernel_rfl))
      rw [hfi] at ha hb
      obtain ⟨gm, hm1', hm2, hm3⟩ := ha
      have hz := hm3.resolve_left (by decide)
      obtain ⟨d, hb1, hb2, hb3⟩ := hb.resolve_left (by decide)
      refine op_store25 _ _ rfl hz ((hev 12 (by decide) (by decide)).trans hm2) ((hev 44 (by decide) (by decide)).trans hb1) (fun W hp => ?_)
      refine ⟨x, rfl, hp.below hbel hg hm1', (fun _ j hj => ?_), fun j hj hfj => ?_⟩
      · show (if j = 12 then true else f j) = true
        split
        · rfl
        · have hj2 : ∀ j, j ∈ ([0, 1, 2, 3, 4, 5, 6, 7, 11] : List Nat) → ([(3, 1), (3, 2), (4, 3), (5, 0), (5, 4), (6, 5), (7, 6), (8, 6), (9, 6), (10, 6), (12, 11), (12, 7), (13, 8), (14, 9), (15, 10), (12, 0), (12, 1), (12, 2), (12, 3), (12, 4), (12, 5), (12, 6)] : List (Nat × Nat)).contains (12, j) = true := List.all_eq_true.1 (by kernel_rfl)
          exact hd j (hj2 j hj)
      · show FR w0.heap.size L c X.v (.int .i64 k) (.pointer (some ⟨bb, bo + k * 5, none⟩)) (X.es[k]) (if 12 = 12 then true else f 12) j x W
        rw [if_pos rfl]
        have hfj : (if j = 12 then true else f j) = true := hfj
        by_cases e : j = 12
        · subst e; exact ⟨gm, d, hm1', hm2, hp.at', NewC.putB hb2 hp hz, hb3⟩
        · rw [if_neg e] at hfj
          have hj2 := hall j hj hfj
          rw [hfi] at hj2
          exact FR.put hj2 hz hp e
    · skip
      have ha := hall 8 (by decide) (hd 8 (by kernel_rfl))
      obtain ⟨ad, cap, h1, h2⟩ := ha
      exact op_pure _ rfl rfl (ex_assign ((hev 45 (by decide) (by decide)).trans h1)) (hK _ _ (by decide) (Below.refl _ _) ⟨ad, cap, rfl, h2⟩)
    · skip
      have ha := hall 9 (by decide) (hd 9 (by kernel_rfl))
      exact op_pure _ rfl rfl (ex_assign ((hev 46 (by decide) (by decide)).trans ha)) (hK _ _ (by decide) (Below.refl _ _) rfl)
    · skip
      have ha := hall 10 (by decide) (hd 10 (by kernel_rfl))
      exact op_pure _ rfl rfl (ex_assign ((hev 47 (by decide) (by decide)).trans ha)) (hK _ _ (by decide) (Below.refl _ _) rfl)
  · rintro f a w ⟨x, rfl, hbel, hcl, hall⟩ hf
    obtain ⟨gm, d, h1, h2, h3, h4, h5⟩ := hall 12 (by decide) (hf _ (by decide))
    obtain ⟨ad, cap, h6, h7⟩ := hall 13 (by decide) (hf _ (by decide))
    exact hend x w gm d ad cap hbel h1 h2 h3 h4 h5 h6 h7 (hall 14 (by decide) (hf _ (by decide))) (hall 15 (by decide) (hf _ (by decide)))
end Go.Proofs.Ytpejcndfplbikaa
