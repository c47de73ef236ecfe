/-
  Layer 20: a slice of a slice at its operation.
-/
import Derived.Test.YtiafhgcnjgpeaaaZg
namespace Go.Proofs.Ytiafhgcnjgpeaaa
open Go.RowKit Go.K
set_option linter.unusedVariables false
set_option linter.unusedSimpArgs false
/-- A plain list of operations of which the first is a slice. -/
theorem at_slice_op {P : Program} {ops : Array Oper} {Q : Exit → Act → World → Prop} {rest : List Oper} {a : Act} {w : World} {d : Option Tmp} {ty : TypeId} {x : Operand} {l h m : Option Operand} {tt : TypeId} {pos : String} {af : Array Edge} {gd : Option (Nat × Bool)}
    (k : wpList P ops Q ({ dst := d, op := .slice ty x l h m, type := tt, pos := pos, after := af, guard := gd } :: rest) a w) : wpList P ops Q ({ dst := d, op := .slice ty x l h m, type := tt, pos := pos, after := af, guard := gd } :: rest) a w := k
theorem wpList_slice_lo {P : Program} {ops : Array Oper} {rest : List Oper} {a : Act} {w : World} {Q : Exit → Act → World → Prop} {x l : Operand} {d : Option Tmp} {t tt : TypeId} {pos : String} {af : Array Edge}
    {e : TypeId} (ht : P.underlying t = some (.slice e)) (vx vl v : Value) (hx : a.eval x = vx) (hl : a.eval l = vl) (hrun : ∀ w, (Instr.slice t vx (some vl) none none).run P w = .ok v w)
    (h : wpList P ops Q rest (a.put d v) w) : wpList P ops Q ({ dst := d, op := .slice t x (some l) none none, type := tt, pos := pos, after := af, guard := none } :: rest) a w :=
  wpList_plain rfl fun _ hK => by
    unfold Oper.wp execOp
    simp only [hx, hl, Option.map, Instr.sliceAt, run_underlying ht, Sem.run_bind, hrun, Result.andThen_ok, Sem.run_pure]
    exact hK _ _ h
theorem wpList_slice_hi {P : Program} {ops : Array Oper} {rest : List Oper} {a : Act} {w : World} {Q : Exit → Act → World → Prop} {x l : Operand} {d : Option Tmp} {t tt : TypeId} {pos : String} {af : Array Edge}
    {e : TypeId} (ht : P.underlying t = some (.slice e)) (vx vl v : Value) (hx : a.eval x = vx) (hl : a.eval l = vl) (hrun : ∀ w, (Instr.slice t vx none (some vl) none).run P w = .ok v w)
    (h : wpList P ops Q rest (a.put d v) w) : wpList P ops Q ({ dst := d, op := .slice t x none (some l) none, type := tt, pos := pos, after := af, guard := none } :: rest) a w :=
  wpList_plain rfl fun _ hK => by
    unfold Oper.wp execOp
    simp only [hx, hl, Option.map, Instr.sliceAt, run_underlying ht, Sem.run_bind, hrun, Result.andThen_ok, Sem.run_pure]
    exact hK _ _ h
theorem wpList_slice_lo_g {P : Program} {ops : Array Oper} {rest : List Oper} {a : Act} {w : World} {Q : Exit → Act → World → Prop} {x l : Operand} {d : Option Tmp} {t tt : TypeId} {pos : String} {af : Array Edge} {g : Option (Nat × Bool)}
    (hw : Region.wanted { dst := d, op := .slice t x (some l) none none, type := tt, pos := pos, after := af, guard := g } (yielded ops a.tmps) = true)
    {e : TypeId} (ht : P.underlying t = some (.slice e)) (vx vl v : Value) (hx : a.eval x = vx) (hl : a.eval l = vl) (hrun : ∀ w, (Instr.slice t vx (some vl) none none).run P w = .ok v w)
    (h : wpList P ops Q rest (a.put d v) w) : wpList P ops Q ({ dst := d, op := .slice t x (some l) none none, type := tt, pos := pos, after := af, guard := g } :: rest) a w :=
  wpList_step fun _ hK => by
    rw [if_pos hw]
    unfold Oper.wp execOp
    simp only [hx, hl, Option.map, Instr.sliceAt, run_underlying ht, Sem.run_bind, hrun, Result.andThen_ok, Sem.run_pure]
    exact hK _ _ h
theorem wpList_slice_hi_g {P : Program} {ops : Array Oper} {rest : List Oper} {a : Act} {w : World} {Q : Exit → Act → World → Prop} {x l : Operand} {d : Option Tmp} {t tt : TypeId} {pos : String} {af : Array Edge} {g : Option (Nat × Bool)}
    (hw : Region.wanted { dst := d, op := .slice t x none (some l) none, type := tt, pos := pos, after := af, guard := g } (yielded ops a.tmps) = true)
    {e : TypeId} (ht : P.underlying t = some (.slice e)) (vx vl v : Value) (hx : a.eval x = vx) (hl : a.eval l = vl) (hrun : ∀ w, (Instr.slice t vx none (some vl) none).run P w = .ok v w)
    (h : wpList P ops Q rest (a.put d v) w) : wpList P ops Q ({ dst := d, op := .slice t x none (some l) none, type := tt, pos := pos, after := af, guard := g } :: rest) a w :=
  wpList_step fun _ hK => by
    rw [if_pos hw]
    unfold Oper.wp execOp
    simp only [hx, hl, Option.map, Instr.sliceAt, run_underlying ht, Sem.run_bind, hrun, Result.andThen_ok, Sem.run_pure]
    exact hK _ _ h
end Go.Proofs.Ytiafhgcnjgpeaaa
