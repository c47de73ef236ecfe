/-
  A slice of a slice at its operation; the same text for every seat (no program in it).
-/
import Derived.Test.YtdkfaicmdbhonaaMem
namespace Go.K
open Go.RowKit
set_option linter.unusedVariables false
/-- A plain list of operations of which the first is a slice. -/
theorem at_slice_op {P : Program} {ops : Array Oper} {Q : Exit → Act → World → Prop} {rest : List Oper} {a : Act} {w : World} {d : Option Tmp} {ty : TypeId} {x : Operand} {l h m : Option Operand} {tt : TypeId} {pos : String} {af : Array Edge} {gd : Option (Nat × Bool)}
    (k : wpList P ops Q ({ dst := d, op := .slice ty x l h m, type := tt, pos := pos, after := af, guard := gd } :: rest) a w) : wpList P ops Q ({ dst := d, op := .slice ty x l h m, type := tt, pos := pos, after := af, guard := gd } :: rest) a w := k
theorem wpList_slice_lo {P : Program} {ops : Array Oper} {rest : List Oper} {a : Act} {w : World} {Q : Exit → Act → World → Prop} {x l : Operand} {d : Option Tmp} {t tt : TypeId} {pos : String} {af : Array Edge}
    {e : TypeId} (ht : P.underlying t = some (.slice e)) (vx vl v : Value) (hx : a.eval x = vx) (hl : a.eval l = vl) (hrun : ∀ w, (Instr.slice t vx (some vl) none none).run P w = .ok v w)
    (h : wpList P ops Q rest (a.put d v) w) : wpList P ops Q ({ dst := d, op := .slice t x (some l) none none, type := tt, pos := pos, after := af, guard := none } :: rest) a w :=
  wpList_plain rfl fun _ hK => by
    unfold Oper.wp execOp
    simp only [hx, hl, Option.map, Instr.sliceAt, run_underlying ht, Sem.run_bind, hrun, Result.andThen_ok, Sem.run_pure]
    exact hK _ _ h
theorem wpList_slice_hi {P : Program} {ops : Array Oper} {rest : List Oper} {a : Act} {w : World} {Q : Exit → Act → World → Prop} {x l : Operand} {d : Option Tmp} {t tt : TypeId} {pos : String} {af : Array Edge}
    {e : TypeId} (ht : P.underlying t = some (.slice e)) (vx vl v : Value) (hx : a.eval x = vx) (hl : a.eval l = vl) (hrun : ∀ w, (Instr.slice t vx none (some vl) none).run P w = .ok v w)
    (h : wpList P ops Q rest (a.put d v) w) : wpList P ops Q ({ dst := d, op := .slice t x none (some l) none, type := tt, pos := pos, after := af, guard := none } :: rest) a w :=
  wpList_plain rfl fun _ hK => by
    unfold Oper.wp execOp
    simp only [hx, hl, Option.map, Instr.sliceAt, run_underlying ht, Sem.run_bind, hrun, Result.andThen_ok, Sem.run_pure]
    exact hK _ _ h
theorem run_slice_hi {P : Program} {t e : TypeId} {size : Nat} (h : P.underlying t = some (.slice e)) (hz : (P.info? e).map (·.size) = some size) (a : Option Addr) (ha : ∃ b o, a = some ⟨b, o, none⟩) (len cap : Nat) (k : IntKind) (hi : Int) (n : Nat)
    (h1 : hi = n) (h2 : n ≤ cap) (w : World) :
    (Instr.slice t (.slice a len cap) none (some (.int k hi)) none).run P w = .ok (.slice a n cap) w := by
  obtain ⟨i, hi', hs⟩ := Option.map_eq_some_iff.1 hz
  obtain ⟨b, o, rfl⟩ := ha
  subst h1 hs
  have c1 : (0 : Int) ≤ (n : Int) ∧ (n : Int) ≤ (cap : Int) := by omega
  have c2 : (0 : Int) ≤ (n : Int) := by omega
  simp only [Instr.slice, Instr.sliceBounds, Instr.sliceBound, asIntOf, run_underlying h, sizeOf, typeInfo, Sem.run_bind, Sem.run_pure, Result.andThen_ok, if_pos c1, Int.toNat_natCast, Option.isSome]
  by_cases hc : cap = 0 <;> simp [hi', hc, Addr.add]
/-- At a step of a region that draws: an append. -/
theorem at_append_step {P : Program} {ops : Array Oper} {a : Act} {w : World} {K : Act → World → Prop} {Q : Exit → Act → World → Prop} {E : Prop} {d : Option Tmp} {args : Array Operand} {ts : Array TypeId} {tt : TypeId} {pos : String} {af : Array Edge} {gd : Option (Nat × Bool)}
    (h : if Region.wanted { dst := d, op := .call { callee := .builtin .append, args := args, argTypes := ts }, type := tt, pos := pos, after := af, guard := gd } (yielded ops a.tmps) = true then Oper.wp P { dst := d, op := .call { callee := .builtin .append, args := args, argTypes := ts }, type := tt, pos := pos, after := af, guard := gd } a w K Q else E) :
    if Region.wanted { dst := d, op := .call { callee := .builtin .append, args := args, argTypes := ts }, type := tt, pos := pos, after := af, guard := gd } (yielded ops a.tmps) = true then Oper.wp P { dst := d, op := .call { callee := .builtin .append, args := args, argTypes := ts }, type := tt, pos := pos, after := af, guard := gd } a w K Q else E := h
theorem owns_len {w : World} {b : Nat} {e : TypeId} {size n : Nat} {v : Value} {xs : List Value} (h : w.ownsRow b e size v n xs) : ∃ ad cap, v = .slice ad n cap ∧ n ≤ cap ∧ cap ≤ maxLen ∧ (0 < n → ∃ g, ad = some ⟨g, 0, none⟩) ∧ (ad = none → cap = 0 ∧ n = 0) := by
  rcases h.2 with ⟨rfl, rfl⟩ | ⟨g, cap, cur, rfl, _, _, hle, hcm, _⟩
  · exact ⟨none, 0, rfl, Nat.le_refl _, Nat.zero_le _, fun h => absurd h (Nat.lt_irrefl 0), fun _ => ⟨rfl, rfl⟩⟩
  · exact ⟨_, cap, rfl, hle, hcm, fun _ => ⟨g, rfl⟩, fun h => by cases h⟩
theorem owns_cell {w : World} {base : Nat} {e : TypeId} {size n : Nat} {g cap : Nat} {xs : List Value} {v : Value} (h : w.ownsRow base e size (.slice (some ⟨g, 0, none⟩) n cap) n xs) (j : Nat) (hj : xs[j]? = some v) : w.cell? ⟨g, j, none⟩ = some v := by
  have := h.cells (g := g) rfl j v hj
  rw [add_spot, Nat.zero_add] at this
  exact this
end Go.K
