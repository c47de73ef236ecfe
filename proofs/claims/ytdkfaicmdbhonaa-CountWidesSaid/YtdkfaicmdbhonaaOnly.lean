/-
  A world that turned in some blocks alone: what a call that writes over what it was handed leaves; the same text for every seat (no program in it).
-/
import Derived.Test.YtdkfaicmdbhonaaStore
import Derived.Test.YtdkfaicmdbhonaaMem
import Derived.Test.YtdkfaicmdbhonaaStep
import Derived.Deep.MidRow
namespace Go.K
open Go.RowKit
set_option linter.unusedVariables false
structure Only (S : Nat → Prop) (w w' : World) : Prop where
  os : w'.os = w.os
  tape : w'.tape = w.tape
  output : w'.output = w.output
  size : w.heap.size ≤ w'.heap.size
  block : ∀ k, k < w.heap.size → ¬ S k → w'.heap[k]? = w.heap[k]?
theorem Only.refl (S : Nat → Prop) (w : World) : Only S w w := ⟨rfl, rfl, rfl, Nat.le_refl _, fun _ _ _ => rfl⟩
theorem Only.trans {S T : Nat → Prop} {a b c : World} (h : Only S a b) (k : Only T b c) (hT : ∀ n, T n → S n ∨ a.heap.size ≤ n) : Only S a c :=
  ⟨k.os.trans h.os, k.tape.trans h.tape, k.output.trans h.output, Nat.le_trans h.size k.size, fun i hi hn =>
    (k.block i (Nat.lt_of_lt_of_le hi h.size) (fun ht => (hT i ht).elim hn (fun h1 => absurd hi (Nat.not_lt.2 h1)))).trans (h.block i hi hn)⟩
theorem Only.of_below {S : Nat → Prop} {a b : World} (h : Below a.heap.size a b) : Only S a b := ⟨h.os, h.tape, h.output, h.size, fun k hk _ => h.block k hk⟩
theorem Only.of_grown {S : Nat → Prop} {a b : World} {row : Option Nat} (h : a.grownBy b row) (hS : ∀ k, row = some k → S k) : Only S a b :=
  ⟨h.os, h.tape, h.output, h.size, fun k hk hn => h.block k hk (fun e => hn (hS k e.symm))⟩
theorem Only.mono {S T : Nat → Prop} {a b : World} (h : Only S a b) (hT : ∀ k, S k → T k) : Only T a b := ⟨h.os, h.tape, h.output, h.size, fun k hk hn => h.block k hk (fun hs => hn (hT k hs))⟩
theorem Only.below {S : Nat → Prop} {B : Nat} {a b : World} (h : Only S a b) (hB : B ≤ a.heap.size) (hS : ∀ k, S k → B ≤ k) : Below B a b :=
  ⟨h.os, h.tape, h.output, h.size, fun k hk => h.block k (by omega) (fun hs => by have := hS k hs; omega)⟩
theorem Only.row {S : Nat → Prop} {a b : World} (h : Only S a b) {n : Nat} {o : Obj} (hr : a.heap[n]? = some o) (hn : ¬ S n) : b.heap[n]? = some o := (h.block n (lt_row hr) hn).trans hr
theorem Only.cell {S : Nat → Prop} {a b : World} (h : Only S a b) {x : Addr} {v : Value} (hr : a.cell? x = some v) (hn : ¬ S x.block) : b.cell? x = some v := by
  rw [World.cell?_of_block (h.block x.block (World.block_lt_of_cell? a _ hr) hn)]; exact hr
theorem Only.sl {S : Nat → Prop} {a b : World} (h : Only S a b) {x : Option Addr} {vs : List Value} (hs : Sl a x vs) (hn : ∀ y, x = some y → vs ≠ [] → ¬ S y.block) : Sl b x vs := by
  intro hne
  obtain ⟨g, off, rfl, hc⟩ := hs hne
  refine ⟨g, off, rfl, fun i hi => ?_⟩
  have h1 := hc i hi
  rw [List.getElem?_eq_getElem hi] at h1 ⊢
  exact h.cell h1 (hn ⟨g, off, none⟩ rfl hne)
theorem Only.owns {S : Nat → Prop} {a b : World} (h : Only S a b) {base : Nat} {e : TypeId} {size n : Nat} {v : Value} {xs : List Value} (ho : a.ownsRow base e size v n xs) (hn : ∀ k, v.ownBlock = some k → ¬ S k) : b.ownsRow base e size v n xs := by
  refine ⟨ho.1, ?_⟩
  rcases ho.2 with h2 | ⟨g, cap, cur, hv, hg, hr, h3⟩
  · exact .inl h2
  · exact .inr ⟨g, cap, cur, hv, hg, h.row hr (hn g (by rw [hv]; rfl)), h3⟩
/-- A piece laid into a row: its size, what lies behind it. -/
def segA (l : List Value) (o : Nat) (vs : List Value) : Array Value := (l.take o ++ vs ++ l.drop (o + vs.length)).toArray
theorem segA_size (l : List Value) (o : Nat) (vs : List Value) (h : o + vs.length ≤ l.length) : (segA l o vs).size = l.length := by simp [segA]; omega
theorem segA_after (l : List Value) (o : Nat) (vs : List Value) (h : o + vs.length ≤ l.length) (q : Nat) (hq : o + vs.length ≤ q) : (segA l o vs)[q]? = l[q]? := by
  simp only [segA, List.getElem?_toArray]
  rw [List.getElem?_append_right (by simp; omega)]
  simp only [List.length_append, List.length_take, List.getElem?_drop]
  congr 1; omega
theorem segA_before (l : List Value) (o : Nat) (vs : List Value) (h : o + vs.length ≤ l.length) (q : Nat) (hq : q < o) : (segA l o vs)[q]? = l[q]? := by
  simp only [segA, List.getElem?_toArray]
  rw [List.append_assoc, List.getElem?_append_left (by simp; omega), List.getElem?_take, if_pos hq]
theorem segA_in (l : List Value) (o : Nat) (vs : List Value) (h : o + vs.length ≤ l.length) (q : Nat) (hq : q < vs.length) : (segA l o vs)[o + q]? = vs[q]? := by
  simp only [segA, List.getElem?_toArray]
  rw [List.append_assoc, List.getElem?_append_right (by simp; omega), List.getElem?_append_left (by simp; omega)]
  congr 1; simp; omega
theorem rows_ne {W : World} {g g' : Nat} {cur cur' : Array Value} {t t' : TypeId} {fr fr' : Nat × Nat} (h : W.heap[g]? = some (.cells cur t fr)) (h' : W.heap[g']? = some (.cells cur' t' fr')) (hne : t ≠ t') : g ≠ g' := by
  intro e
  subst e
  rw [h] at h'
  injection h' with h1
  injection h1 with _ h2
  exact hne h2
theorem Put.only {w W : World} {g : Nat} {o : Obj} (h : Put w g o W) : Only (· = g) w W := Only.of_grown h.grown (fun k hk => by injection hk with e; exact e.symm)
/-- append onto an owned slice in a plain region, with where the new row lies. -/
theorem wpList_append_sl_at {P : Program} {w : World} {ops : Array Oper} {rest : List Oper} {o : Oper} {a : Act} {Q : Exit → Act → World → Prop} (hgd : o.guard = none) (s x : Operand) (t : TypeId)
    (ho : o.op = .call { callee := .builtin .append, args := #[s, x], argTypes := #[t, t] })
    (base : Nat) (e : TypeId) (z : Value) (size bytes : Nat) (ht : P.underlying t = some (.slice e)) (hinfo : (P.info? e).map (fun i => (i.zero, i.size, i.bytes)) = some (some z, size, bytes))
    (hzs : z.cells.size = size) (hsz : 0 < size)
    (v : Value) (n : Nat) (xs : List Value) (hs : a.eval s = v) (hown : w.ownsRow base e size v n xs)
    (ad : Option Addr) (m c : Nat) (news : List Value) (hx : a.eval x = .slice ad m c) (hc0 : ad = none → m = 0 ∧ c = 0) (hl : news.length = m * size) (hsl : Sl w ad news) (h1 : ∀ u ∈ news, u.oneCell' = true)
    (h63 : n + m ≤ maxLen) (hbytes : (n + m) * bytes ≤ 140737488355328) (hbase : base ≤ w.heap.size)
    (h : ∀ v' w', w'.ownsRow base e size v' (n + m) (xs ++ news) → w.grownBy w' v.ownBlock → (v'.ownBlock = v.ownBlock ∨ v'.ownBlock = some w.heap.size) → wpList P ops Q rest (a.put o.dst v') w') : wpList P ops Q (o :: rest) a w :=
  wpList_plain hgd fun _ hK => by
    obtain ⟨i, hi, hz, hsize, hby⟩ := info_parts hinfo
    cases ad with
    | none =>
      obtain ⟨rfl, rfl⟩ := hc0 rfl
      have hn := hsl.none
      subst hn
      have hrun := run_append_owned_none (P := P) (w := w) base t o.type e i size ht hi v n xs hown
      unfold Oper.wp
      simp [execOp, ho, resolve, invoke, builtin, hs, hx, hrun, Result.andThen]
      exact hK _ _ (h v w (by simpa using hown) ⟨rfl, rfl, rfl, Nat.le_refl _, fun _ _ _ => rfl⟩ (.inl rfl))
    | some ad =>
      obtain ⟨v', w', hr, h2, h3, _, h5⟩ := run_append_own_at (P := P) w base t o.type e i z size bytes ht hi hz hsize hby hzs hsz v n xs hown ad m c news hl hsl.cells h1 h63 hbytes hbase
      unfold Oper.wp execOp
      simp only [ho, resolve, invoke, builtin, Sem.run_bind, Sem.run_pure, Result.andThen_ok, List.map_toArray, List.map_cons, List.map_nil, hs, hx, hr]
      exact hK _ _ (h v' w' h2 h3 h5)
/-- Results of which the first is a struct that lies in memory. -/
theorem results_row_tmp {P : Program} {fn : Func} {p u : Tmp} {ty : TypeId} (h : fn.results = #[.cell p ty, .tmp u]) (tmps : Array Value) (w : World) (g : Nat) (t : TypeId) (cs : Array Value) (fr : Nat × Nat) (d : TypeDesc)
    (hp : tmps.getD p undef = .pointer (some ⟨g, 0, none⟩)) (hg : w.heap[g]? = some (.cells cs t fr))
    (hu : P.underlying ty = some d) (hd : (match d with | .struct _ | .array _ _ => true | _ => false) = true) (hi : (P.info? ty).map (·.size) = some cs.size) :
    (results fn tmps).run P w = .ok (.tuple #[.agg cs, tmps.getD u undef]) w := by
  have hp' : tmps[p]?.getD undef = .pointer (some ⟨g, 0, none⟩) := by simpa using hp
  simp [results, h, hp', asAddr, run_loadVar_row w g t ty cs fr d hg hu hd hi]
theorem results_row_tmp3 {P : Program} {fn : Func} {p u v x : Tmp} {ty : TypeId} (h : fn.results = #[.cell p ty, .tmp u, .tmp v, .tmp x]) (tmps : Array Value) (w : World) (g : Nat) (t : TypeId) (cs : Array Value) (fr : Nat × Nat) (d : TypeDesc)
    (hp : tmps.getD p undef = .pointer (some ⟨g, 0, none⟩)) (hg : w.heap[g]? = some (.cells cs t fr))
    (hu : P.underlying ty = some d) (hd : (match d with | .struct _ | .array _ _ => true | _ => false) = true) (hi : (P.info? ty).map (·.size) = some cs.size) :
    (results fn tmps).run P w = .ok (.tuple #[.agg cs, tmps.getD u undef, tmps.getD v undef, tmps.getD x undef]) w := by
  have hp' : tmps[p]?.getD undef = .pointer (some ⟨g, 0, none⟩) := by simpa using hp
  simp [results, h, hp', asAddr, run_loadVar_row w g t ty cs fr d hg hu hd hi]
/-- The store at a step of a region that draws its order. -/
theorem step_store_lit {P : Program} {ops : Array Oper} {a : Act} {w : World} {K : Act → World → Prop} {Q : Exit → Act → World → Prop} {E : Prop} {x y : Operand} {tt : TypeId} {pos : String} {af : Array Edge} (ty : TypeId)
    (g o : Nat) {cur : Array Value} {t : TypeId} (new : Array Value) (v : Value) (hr : w.heap[g]? = some (.cells cur t (0, 0))) (hi : (P.info? ty).map (·.size) = some v.cells.size) (hs : o + v.cells.size ≤ cur.size)
    (h1 : v.cells.toList.all (·.oneCell') = true)
    (hn : (cur.toList.take o ++ v.cells.toList ++ cur.toList.drop (o + v.cells.size)).toArray = new)
    (hx : a.eval x = .pointer (some ⟨g, o, none⟩)) (hy : a.eval y = v)
    (h : ∀ W, Put w g (.cells new t) W → K a W) :
    if Region.wanted { dst := none, op := .store ty x y, type := tt, pos := pos, after := af, guard := none } (yielded ops a.tmps) = true then Oper.wp P { dst := none, op := .store ty x y, type := tt, pos := pos, after := af, guard := none } a w K Q else E := by
  have hw : Region.wanted { dst := none, op := .store ty x y, type := tt, pos := pos, after := af, guard := none } (yielded ops a.tmps) = true := by simp [Region.wanted]
  rw [if_pos hw]
  have hrun := run_storeAt_seg (P := P) ty g o cur new v t hr hs hi (by simpa using h1) hn
  unfold Oper.wp execOp
  simp only [hx, hy, Sem.run_bind, hrun, Result.andThen_ok]
  exact h _ (put_setRow hr)
theorem isSome_set {w : World} {b o : Nat} {v : Value} {x : Addr} (h : (w.cell? x).isSome = true) : ((w.setCell ⟨b, o, none⟩ v).cell? x).isSome = true := World.isSome_setCells b [v] o w x h
theorem isSome_set_drew {w : World} {b o : Nat} {v : Value} {x : Addr} (h : (w.cell? x).isSome = true) : ((w.setCell ⟨b, o, none⟩ v).drew.cell? x).isSome = true := World.isSome_setCells b [v] o w x h
end Go.K
