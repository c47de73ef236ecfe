/-
  The store of a row of any size at a step of a region with two classes of worlds.
-/
import Derived.Test.YtiafhgcnjgpeaaaFlag
import Derived.Test.YtiafhgcnjgpeaaaOnly
import Lean
namespace Go.K
set_option linter.unusedVariables false
set_option linter.unusedSimpArgs false
open Lean Elab Tactic Meta in
/-- Succeeds, and does nothing, where the goal is a plain list of operations of which the first is a store of type n. -/
elab "at_store" : tactic => withMainContext do
  let t := (← instantiateMVars (← getMainTarget)).consumeMData
  unless t.isAppOfArity ``Go.wpList 6 do throwError "at_store: no wpList"
  let l := t.getArg! 3
  unless l.isAppOfArity ``List.cons 3 do throwError "at_store: no operation"
  let o := l.getArg! 1
  unless o.isAppOfArity ``Go.Oper.mk 6 do throwError "at_store: not written out"
  unless (o.getArg! 1).isAppOf ``Go.Op.store do throwError "at_store: another operation"
def isStore (o : Oper) : Bool := match o.op with | .store _ _ _ => true | _ => false
theorem inv_store_lit {P : Program} {C : World → Prop} {a : Act} {w : World} {x y : Operand} {tt : TypeId} {pos : String} {af : Array Edge} (ty : TypeId)
    (g o : Nat) {cur : Array Value} {t : TypeId} (new : Array Value) (v : Value) (hr : w.heap[g]? = some (.cells cur t (0, 0))) (hi : (P.info? ty).map (·.size) = some v.cells.size) (hs : o + v.cells.size ≤ cur.size)
    (h1 : v.cells.toList.all (·.oneCell') = true)
    (hn : (cur.toList.take o ++ v.cells.toList ++ cur.toList.drop (o + v.cells.size)).toArray = new)
    (hx : a.eval x = .pointer (some ⟨g, o, none⟩)) (hy : a.eval y = v)
    (h : ∀ W, Put w g (.cells new t) W → C W) :
    InvRun P C undef ((execOp a.eval { dst := none, op := .store ty x y, type := tt, pos := pos, after := af, guard := none }).run P w) := by
  have hrun := run_storeAt_seg (P := P) ty g o cur new v t hr hs hi (by simpa using h1) hn
  unfold execOp
  simp only [hx, hy, Sem.run_bind, hrun, Result.andThen_ok, Sem.run_pure]
  first
    | exact ⟨h _ (put_setRow hr), rfl⟩
    | exact h _ (put_setRow hr)
end Go.K
