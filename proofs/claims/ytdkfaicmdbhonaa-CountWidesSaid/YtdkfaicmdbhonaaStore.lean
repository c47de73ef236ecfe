/-
  Stores into a block known by its row, in a world of which rows alone are known; the same text for every seat (no program in it).
-/
import Derived.Test.YtdkfaicmdbhonaaKw
import Derived.Laws.CopyRow
namespace Go.K
open Go.RowKit
set_option linter.unusedVariables false
set_option linter.unusedSimpArgs false
/-- A row in its place, the others as they were. -/
structure Put (w : World) (g : Nat) (o : Obj) (W : World) : Prop where
  at' : W.heap[g]? = some o
  size : W.heap.size = w.heap.size
  grown : w.grownBy W (some g)
theorem put_setRow {w : World} {g : Nat} {cur cells : Array Value} {t : TypeId} {fr : Nat × Nat} (hr : w.heap[g]? = some (.cells cur t fr)) : Put w g (.cells cells t fr) (w.setRow g cells) :=
  ⟨setRow_heap _ _ _ _ _ _ hr, by simp, ⟨rfl, rfl, rfl, by simp, fun k _ hne => setRow_other _ _ _ _ (fun e => hne (by rw [e]))⟩⟩
theorem Put.row {w W : World} {g : Nat} {o : Obj} (h : Put w g o W) {n : Nat} {p : Obj} (hr : w.heap[n]? = some p) (hne : n ≠ g) : W.heap[n]? = some p :=
  (h.grown.block n (lt_row hr) (fun e => hne (by injection e))).trans hr
theorem Put.below {w W a : World} {g B : Nat} {o : Obj} (h : Put w g o W) (hb : Below B a w) (hB : B ≤ w.heap.size) (hg : B ≤ g) : Below B a W := below_grown hb h.grown hB hg
theorem run_storeAt_seg {P : Program} {w : World} (ty : TypeId) (g o : Nat) (cur new : Array Value) (v : Value) (t : TypeId) (hr : w.heap[g]? = some (.cells cur t (0, 0))) (hs : o + v.cells.size ≤ cur.size)
    (hi : (P.info? ty).map (·.size) = some v.cells.size) (h1 : v.cells.all (·.oneCell') = true)
    (hn : (cur.toList.take o ++ v.cells.toList ++ cur.toList.drop (o + v.cells.size)).toArray = new) :
    (Instr.storeAt ty (.pointer (some ⟨g, o, none⟩)) v).run P w = .ok () (w.setRow g new) := by
  have h := run_storeCells_at (P := P) g o t v.cells.toList 0 cur w hr (by simpa using hs) (fun v hv => (Array.all_eq_true_iff_forall_mem.1 h1) v (by simpa using hv))
  simp only [Nat.add_zero, Array.length_toList] at h
  rw [hn] at h
  cases hq : P.info? ty with
  | none => simp [hq] at hi
  | some i =>
    have hs : v.cells.size = i.size := by simp [hq] at hi; omega
    simp [Instr.storeAt, Instr.sureAddr, storeVar, sizeOf, typeInfo, hq, hs, h]
theorem wpList_store_seg {P : Program} {ops : Array Oper} {rest : List Oper} {op : Oper} {a : Act} {w : World} {Q : Exit → Act → World → Prop} (hgd : op.guard = none) (ty : TypeId) (x y : Operand) (ho : op.op = .store ty x y) (hd : op.dst = none)
    (g o : Nat) (cur new : Array Value) (v : Value) (t : TypeId) (hx : a.eval x = .pointer (some ⟨g, o, none⟩)) (hy : a.eval y = v)
    (hr : w.heap[g]? = some (.cells cur t (0, 0))) (hs : o + v.cells.size ≤ cur.size)
    (hi : (P.info? ty).map (·.size) = some v.cells.size) (h1 : v.cells.all (·.oneCell') = true)
    (hn : (cur.toList.take o ++ v.cells.toList ++ cur.toList.drop (o + v.cells.size)).toArray = new)
    (h : ∀ W, Put w g (.cells new t) W → wpList P ops Q rest a W) : wpList P ops Q (op :: rest) a w :=
  wpList_plain hgd fun _ hK => by
    have hrun := run_storeAt_seg (P := P) ty g o cur new v t hr hs hi h1 hn
    unfold Oper.wp execOp
    simp only [ho, hx, hy, Sem.run_bind, hrun, Result.andThen_ok]
    refine hK _ _ ?_
    rw [hd]
    exact h _ (put_setRow hr)
/-- The store as a plain region writes it, all of it told by the caller. -/
theorem wpList_store_lit {P : Program} {ops : Array Oper} {rest : List Oper} {a : Act} {w : World} {Q : Exit → Act → World → Prop} {x y : Operand} {tt : TypeId} {pos : String} {af : Array Edge} (ty : TypeId)
    (g o : Nat) {cur : Array Value} {t : TypeId} (new : Array Value) (v : Value) (hr : w.heap[g]? = some (.cells cur t (0, 0))) (hi : (P.info? ty).map (·.size) = some v.cells.size) (hs : o + v.cells.size ≤ cur.size)
    (h1 : v.cells.toList.all (·.oneCell') = true)
    (hn : (cur.toList.take o ++ v.cells.toList ++ cur.toList.drop (o + v.cells.size)).toArray = new)
    (hx : a.eval x = .pointer (some ⟨g, o, none⟩)) (hy : a.eval y = v)
    (h : ∀ W, Put w g (.cells new t) W → wpList P ops Q rest a W) : wpList P ops Q ({ dst := none, op := .store ty x y, type := tt, pos := pos, after := af, guard := none } :: rest) a w :=
  wpList_store_seg rfl ty x y rfl rfl g o cur new v t hx hy hr hs hi (by simpa using h1) hn h
/-- The load of a whole struct out of a row. -/
theorem wpList_load_lit {P : Program} {ops : Array Oper} {rest : List Oper} {a : Act} {w : World} {Q : Exit → Act → World → Prop} {x : Operand} {d : Option Tmp} {tt : TypeId} {pos : String} {af : Array Edge} (ty : TypeId)
    (g : Nat) {cs : Array Value} {t : TypeId} {fr : Nat × Nat} {de : TypeDesc} (hr : w.heap[g]? = some (.cells cs t fr)) (hu : P.underlying ty = some de) (hd : (match de with | .struct _ | .array _ _ => true | _ => false) = true)
    (hi : (P.info? ty).map (·.size) = some cs.size) (hx : a.eval x = .pointer (some ⟨g, 0, none⟩))
    (h : wpList P ops Q rest (a.put d (.agg cs)) w) : wpList P ops Q ({ dst := d, op := .load ty x, type := tt, pos := pos, after := af, guard := none } :: rest) a w :=
  wpList_load_row rfl ty x rfl g hx t cs fr de hr hu hd hi h
/-- A row's cells, one by one. -/
theorem cells3 {w : World} {g : Nat} {a b c : Value} {t : TypeId} {fr : Nat × Nat} (h : w.heap[g]? = some (.cells #[a, b, c] t fr)) : w.cell? ⟨g, 0, none⟩ = some a ∧ w.cell? ⟨g, 1, none⟩ = some b ∧ w.cell? ⟨g, 2, none⟩ = some c := by
  refine ⟨?_, ?_, ?_⟩ <;> (rw [cell_of_row _ _ _ _ _ _ h]; rfl)
theorem cells5 {w : World} {g : Nat} {a b c d e : Value} {t : TypeId} {fr : Nat × Nat} (h : w.heap[g]? = some (.cells #[a, b, c, d, e] t fr)) :
    w.cell? ⟨g, 0, none⟩ = some a ∧ w.cell? ⟨g, 1, none⟩ = some b ∧ w.cell? ⟨g, 2, none⟩ = some c ∧ w.cell? ⟨g, 3, none⟩ = some d ∧ w.cell? ⟨g, 4, none⟩ = some e := by
  refine ⟨?_, ?_, ?_, ?_, ?_⟩ <;> (rw [cell_of_row _ _ _ _ _ _ h]; rfl)
theorem cells11 {w : World} {g : Nat} {a b c d e f i j k l m : Value} {t : TypeId} {fr : Nat × Nat} (h : w.heap[g]? = some (.cells #[a, b, c, d, e, f, i, j, k, l, m] t fr)) :
    w.cell? ⟨g, 0, none⟩ = some a ∧ w.cell? ⟨g, 1, none⟩ = some b ∧ w.cell? ⟨g, 2, none⟩ = some c ∧ w.cell? ⟨g, 3, none⟩ = some d ∧ w.cell? ⟨g, 4, none⟩ = some e ∧ w.cell? ⟨g, 5, none⟩ = some f ∧
    w.cell? ⟨g, 6, none⟩ = some i ∧ w.cell? ⟨g, 7, none⟩ = some j ∧ w.cell? ⟨g, 8, none⟩ = some k ∧ w.cell? ⟨g, 9, none⟩ = some l ∧ w.cell? ⟨g, 10, none⟩ = some m := by
  refine ⟨?_, ?_, ?_, ?_, ?_, ?_, ?_, ?_, ?_, ?_, ?_⟩ <;> (rw [cell_of_row _ _ _ _ _ _ h]; rfl)
/-- A row that is not the one that grew. -/
theorem row_past {W W' : World} {n : Nat} {o : Obj} (h : W.heap[n]? = some o) {row : Option Nat} (hg : W.grownBy W' row) (hne : some n ≠ row) : W'.heap[n]? = some o :=
  (hg.block n (lt_row h) hne).trans h
end Go.K
