/-
  The store of a row of any size at a step of a region with two classes of worlds.
-/
import Derived.Test.YtpikmcapnmdmbaaFlag
import Derived.Test.YtpikmcapnmdmbaaOnly
namespace Go.K
set_option linter.unusedVariables false
set_option linter.unusedSimpArgs false
/-- A plain list of operations of which the first is a store: 'with_reducible refine at_store_op ?_' fails at once elsewhere. -/
theorem at_store_op {P : Program} {ops : Array Oper} {Q : Exit → Act → World → Prop} {rest : List Oper} {a : Act} {w : World} {d : Option Tmp} {ty : TypeId} {x y : Operand} {tt : TypeId} {pos : String} {af : Array Edge} {gd : Option (Nat × Bool)}
    (h : wpList P ops Q ({ dst := d, op := .store ty x y, type := tt, pos := pos, after := af, guard := gd } :: rest) a w) : wpList P ops Q ({ dst := d, op := .store ty x y, type := tt, pos := pos, after := af, guard := gd } :: rest) a w := h
def isStore (o : Oper) : Bool := match o.op with | .store _ _ _ => true | _ => false
theorem inv_store_lit {P : Program} {C : World → Prop} {a : Act} {w : World} {x y : Operand} {tt : TypeId} {pos : String} {af : Array Edge} (ty : TypeId)
    (g o : Nat) {cur : Array Value} {t : TypeId} (new : Array Value) (v : Value) (hr : w.heap[g]? = some (.cells cur t (0, 0))) (hi : (P.info? ty).map (·.size) = some v.cells.size) (hs : o + v.cells.size ≤ cur.size)
    (h1 : v.cells.toList.all (·.oneCell') = true)
    (hn : (cur.toList.take o ++ v.cells.toList ++ cur.toList.drop (o + v.cells.size)).toArray = new)
    (hx : a.eval x = .pointer (some ⟨g, o, none⟩)) (hy : a.eval y = v)
    (h : ∀ W, Put w g (.cells new t) W → C W) :
    InvRun P C undef ((execOp a.eval { dst := none, op := .store ty x y, type := tt, pos := pos, after := af, guard := none }).run P w) := by
  have hrun := run_storeAt_seg (P := P) ty g o cur new v t hr hs hi (by simpa using h1) hn
  unfold execOp
  simp only [hx, hy, Sem.run_bind, hrun, Result.andThen_ok, Sem.run_pure]
  first
    | exact ⟨h _ (put_setRow hr), rfl⟩
    | exact h _ (put_setRow hr)
end Go.K
