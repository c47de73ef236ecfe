/-
  Slices that a call made itself, appended to from any slice; readings kept; the same text for every seat (no program in it).
-/
import Derived.Test.YtdkfaicmdbhonaaKit
import Derived.Laws.AppendOwnNone
namespace Go.K
open Go.RowKit
set_option linter.unusedVariables false

/-- A contract handed on to a world that began earlier. -/
theorem onto {P : Program} {f : FuncId} {args : Array Value} {w w0 : World} {v : Value} (h : Calls P f args w fun e w' => e = .returned v ∧ Below w.heap.size w w') (hB : Below w0.heap.size w0 w) :
    Calls P f args w fun e w' => e = .returned v ∧ Below w0.heap.size w0 w' := h.mono fun _ _ ⟨he, hb⟩ => ⟨he, hB.trans (hb.mono hB.size)⟩
theorem onto_same {P : Program} {f : FuncId} {args : Array Value} {w w0 : World} {v : Value} (h : Calls P f args w fun e w' => e = .returned v ∧ w = w') (hB : Below w0.heap.size w0 w) :
    Calls P f args w fun e w' => e = .returned v ∧ Below w0.heap.size w0 w' := h.mono fun _ _ ⟨he, hb⟩ => ⟨he, hb ▸ hB⟩

theorem add_spot (b off j : Nat) : (⟨b, off, none⟩ : Addr).add j = ⟨b, off + j, none⟩ := by
  unfold Addr.add
  split
  · rename_i h; subst h; rfl
  · rfl
theorem Sl.cells {w : World} {a : Addr} {vs : List Value} (h : Sl w (some a) vs) : ∀ j u, vs[j]? = some u → w.cell? (a.add j) = some u := by
  intro j u hu
  have hj : j < vs.length := (List.getElem?_eq_some_iff.1 hu).1
  obtain ⟨b, off, he, hc⟩ := h (fun e => by rw [e] at hj; cases hj)
  cases he
  rw [add_spot, hc j hj, hu]
theorem Sl.none {w : World} {vs : List Value} (h : Sl w none vs) : vs = [] := by
  rcases vs with _ | ⟨x, r⟩
  · rfl
  · obtain ⟨b, off, he, _⟩ := h (fun e => by cases e)
    cases he
theorem sl_new (w : World) (cs : List Value) (t : TypeId) (fr : Nat × Nat) : Sl (w.alloc (.cells cs.toArray t fr)) (some ⟨w.heap.size, 0, Option.none⟩) cs :=
  fun _ => ⟨w.heap.size, 0, rfl, fun i _ => by rw [cell_of_row _ _ _ _ _ _ (heap_alloc_new _ _), Nat.zero_add]; simp⟩
theorem one_int (k : IntKind) (n : Int) : ∀ u ∈ [Value.int k n], u.oneCell' = true := by
  intro u hu
  rw [List.mem_singleton] at hu
  subst hu; rfl
/-- Where a piece of a slice begins, as the model has it. -/
def piece (a : Option Addr) (lo cap size : Nat) : Option Addr := if cap = lo then a else a.map (·.add (lo * size))
theorem run_slice_lohi {P : Program} {t e : TypeId} {size : Nat} (h : P.underlying t = some (.slice e)) (hz : (P.info? e).map (·.size) = some size) (a : Option Addr) (len cap : Nat) (k k' : IntKind) (lo hi : Int) (L n : Nat)
    (h1 : lo = L) (h2 : hi = ((L + n : Nat) : Int)) (h3 : L + n ≤ cap) (w : World) :
    (Instr.slice t (.slice a len cap) (some (.int k lo)) (some (.int k' hi)) none).run P w = .ok (.slice (piece a L cap size) n (cap - L)) w := by
  obtain ⟨i, hi', hs⟩ := Option.map_eq_some_iff.1 hz
  subst h1 h2 hs
  have c1 : (0 : Int) ≤ ((L + n : Nat) : Int) ∧ ((L + n : Nat) : Int) ≤ (cap : Int) := by omega
  have c2 : (0 : Int) ≤ (L : Int) ∧ (L : Int) ≤ ((L + n : Nat) : Int) := by omega
  simp only [Instr.slice, Instr.sliceBounds, Instr.sliceBound, asIntOf, run_underlying h, sizeOf, typeInfo, Sem.run_bind, Sem.run_pure, Result.andThen_ok, if_pos c1, if_pos c2, Int.toNat_natCast, Option.isSome, piece, Nat.add_sub_cancel_left]
  simp [hi']
theorem run_slice_lo {P : Program} {t e : TypeId} {size : Nat} (h : P.underlying t = some (.slice e)) (hz : (P.info? e).map (·.size) = some size) (a : Option Addr) (len cap : Nat) (k : IntKind) (lo : Int) (L n : Nat)
    (h1 : lo = L) (h2 : len = L + n) (w : World) :
    (Instr.slice t (.slice a len cap) (some (.int k lo)) none none).run P w = .ok (.slice (piece a L cap size) n (cap - L)) w := by
  obtain ⟨i, hi', hs⟩ := Option.map_eq_some_iff.1 hz
  subst h1 h2 hs
  have c2 : (0 : Int) ≤ (L : Int) ∧ (L : Int) ≤ ((L + n : Nat) : Int) := by omega
  simp only [Instr.slice, Instr.sliceBounds, Instr.sliceBound, asIntOf, run_underlying h, sizeOf, typeInfo, Sem.run_bind, Sem.run_pure, Result.andThen_ok, if_pos c2, Int.toNat_natCast, Option.isSome, piece, Nat.add_sub_cancel_left]
  simp [hi']
theorem sl_piece {w : World} {a : Option Addr} {vs : List Value} (h : Sl w a vs) (lo cap size : Nat) (hc : vs.length ≤ cap * size) : Sl w (piece a lo cap size) (vs.drop (lo * size)) := by
  intro hne
  have hlt : lo * size < vs.length := by
    rcases Nat.lt_or_ge (lo * size) vs.length with h' | h'
    · exact h'
    · exact absurd (List.drop_of_length_le h') hne
  obtain ⟨b, off, rfl, hcell⟩ := h (fun e => by rw [e] at hlt; simp at hlt)
  have hcl : cap ≠ lo := fun e => by subst e; omega
  refine ⟨b, off + lo * size, ?_, fun i hi => ?_⟩
  · unfold piece; rw [if_neg hcl]; simp [add_spot]
  · rw [List.length_drop] at hi
    rw [Nat.add_assoc, hcell _ (by omega), List.getElem?_drop]
/-- append onto a slice of the call's own, of what any slice shows. -/
theorem wpList_append_sl {P : Program} {w : World} {ops : Array Oper} {rest : List Oper} {o : Oper} {a : Act} {Q : Exit → Act → World → Prop} (hgd : o.guard = none) (s x : Operand) (t : TypeId)
    (ho : o.op = .call { callee := .builtin .append, args := #[s, x], argTypes := #[t, t] })
    (base : Nat) (e : TypeId) (z : Value) (size bytes : Nat) (ht : P.underlying t = some (.slice e)) (hinfo : (P.info? e).map (fun i => (i.zero, i.size, i.bytes)) = some (some z, size, bytes))
    (hzs : z.cells.size = size) (hsz : 0 < size)
    (v : Value) (n : Nat) (xs : List Value) (hs : a.eval s = v) (hown : w.ownsRow base e size v n xs)
    (ad : Option Addr) (m c : Nat) (news : List Value) (hx : a.eval x = .slice ad m c) (hc0 : ad = none → m = 0 ∧ c = 0) (hl : news.length = m * size) (hsl : Sl w ad news) (h1 : ∀ u ∈ news, u.oneCell' = true)
    (h63 : n + m ≤ maxLen) (hbytes : (n + m) * bytes ≤ 140737488355328) (hbase : base ≤ w.heap.size)
    (h : ∀ v' w', w'.ownsRow base e size v' (n + m) (xs ++ news) → w.grownBy w' v.ownBlock → wpList P ops Q rest (a.put o.dst v') w') : wpList P ops Q (o :: rest) a w := by
  obtain ⟨i, hi, hz, hsize, hby⟩ := info_parts hinfo
  cases ad with
  | none =>
    obtain ⟨rfl, rfl⟩ := hc0 rfl
    have hn := hsl.none
    subst hn
    refine wpList_append_own_none hgd s x t ho base e i size ht hi v n xs hs hown hx (h v w (by simpa using hown) ?_)
    exact ⟨rfl, rfl, rfl, Nat.le_refl _, fun _ _ _ => rfl⟩
  | some ad =>
    exact wpList_append_own w hgd s x t ho base e i z size bytes ht hi hz hsize hby hzs hsz v n xs hs hown ad m c news hx hl hsl.cells h1 h63 hbytes hbase (fun v' w' h2 h3 _ => h v' w' h2 h3)

/-- What an owned row shows. -/
theorem sl_of_owns {w : World} {base : Nat} {e : TypeId} {size n : Nat} {g cap : Nat} {xs : List Value} (h : w.ownsRow base e size (.slice (some ⟨g, 0, none⟩) n cap) n xs) : Sl w (some ⟨g, 0, none⟩) xs := by
  intro _
  refine ⟨g, 0, rfl, fun i hi => ?_⟩
  have := h.cells (g := g) rfl i xs[i] (List.getElem?_eq_getElem hi)
  rw [add_spot] at this
  rw [this, List.getElem?_eq_getElem hi]
theorem oneCell_vBs (l : List (BitVec 8)) : ∀ u ∈ vBs l, u.oneCell' = true := by
  intro u hu
  obtain ⟨c, _, rfl⟩ := List.mem_map.1 hu
  rfl
theorem vBs_append (l m : List (BitVec 8)) : vBs (l ++ m) = vBs l ++ vBs m := by simp [vBs]
/-- Where an owned row lies, if it is not nil. -/
theorem owns_cases {w : World} {base : Nat} {e : TypeId} {size n : Nat} {v : Value} {xs : List Value} (h : w.ownsRow base e size v n xs) (hn : 0 < n) :
    ∃ g cap cur, v = .slice (some ⟨g, 0, none⟩) n cap ∧ base ≤ g ∧ w.heap[g]? = some (.cells cur e (0, 0)) ∧ n ≤ cap ∧ cap ≤ maxLen ∧ cur.size = cap * size ∧ cur.toList.take (n * size) = xs := by
  rcases h.2 with ⟨_, h0⟩ | h
  · omega
  · exact h
theorem owns_below {w w' : World} {B : Nat} {base : Nat} {e : TypeId} {size n : Nat} {v : Value} {xs : List Value} (h : w.ownsRow base e size v n xs) (hb : Below w.heap.size w w') : w'.ownsRow base e size v n xs :=
  h.kept (grown_below hb Option.none) (by
    cases hv : v.ownBlock with
    | none => exact .inl rfl
    | some k => exact .inr (by simp))
end Go.K
