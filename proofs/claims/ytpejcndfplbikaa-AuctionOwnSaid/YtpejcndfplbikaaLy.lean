/-
  Layer 21: single operations at a step of a region of which the frame is known by its slots.
-/
import Derived.Test.YtpejcndfplbikaaLx
import Derived.Test.YtpejcndfplbikaaVl
namespace Go.Proofs.Ytpejcndfplbikaa
open Go.RowKit Go.K
set_option linter.unusedVariables false
set_option linter.unusedSimpArgs false
section
variable {ops : Array Oper} {Q : Exit → Act → World → Prop} {i : Nat} {K : Act → World → Prop} {a : Act} {w : World} {d : Tmp} {tt : TypeId} {pos : String} {af : Array Edge}
theorem op_load25 (x : Operand) (ho : ops[i]? = some { dst := some d, op := .load 25 x, type := tt, pos := pos, after := af, guard := none })
    {g : Nat} {t : TypeId} {cs : Array Value} {fr : Nat × Nat} (hx : a.eval x = .pointer (some ⟨g, 0, none⟩)) (hr : w.heap[g]? = some (.cells cs t fr)) (hi : (Try.prog.info? 25).map (·.size) = some cs.size)
    (hk : K (a.put (some d) (.agg cs)) w) : wpOp Try.prog ops Q i K a w := by
  unfold wpOp
  rw [ho]
  dsimp only
  rw [if_pos (by simp [Region.wanted])]
  left
  have h := inv_load_row (P := Try.prog) (C := fun W => W = w) (o := { dst := some d, op := .load 25 x, type := tt, pos := pos, after := af, guard := none }) (a := a) 25 x rfl g hx t cs fr _ hr Try.underlying25 rfl hi rfl
  unfold Oper.wp
  generalize (execOp a.eval _).run Try.prog w = r at h
  cases r with
  | ok n w' =>
    cases n <;> simp only [InvRun] at h <;> simp only [Oper.upon]
    case value u => obtain ⟨rfl, rfl⟩ := h; exact hk
    case skip => obtain ⟨rfl, h⟩ := h; cases h
    case enter f args => exact h.mono fun e w'' ⟨he, hc⟩ => by subst he hc; exact hk
  | halt x w' => simp only [InvRun] at h
theorem op_load33 (x : Operand) (ho : ops[i]? = some { dst := some d, op := .load 33 x, type := tt, pos := pos, after := af, guard := none })
    {g : Nat} {t : TypeId} {cs : Array Value} {fr : Nat × Nat} (hx : a.eval x = .pointer (some ⟨g, 0, none⟩)) (hr : w.heap[g]? = some (.cells cs t fr)) (hi : (Try.prog.info? 33).map (·.size) = some cs.size)
    (hk : K (a.put (some d) (.agg cs)) w) : wpOp Try.prog ops Q i K a w := by
  unfold wpOp
  rw [ho]
  dsimp only
  rw [if_pos (by simp [Region.wanted])]
  left
  have h := inv_load_row (P := Try.prog) (C := fun W => W = w) (o := { dst := some d, op := .load 33 x, type := tt, pos := pos, after := af, guard := none }) (a := a) 33 x rfl g hx t cs fr _ hr Try.underlying33 rfl hi rfl
  unfold Oper.wp
  generalize (execOp a.eval _).run Try.prog w = r at h
  cases r with
  | ok n w' =>
    cases n <;> simp only [InvRun] at h <;> simp only [Oper.upon]
    case value u => obtain ⟨rfl, rfl⟩ := h; exact hk
    case skip => obtain ⟨rfl, h⟩ := h; cases h
    case enter f args => exact h.mono fun e w'' ⟨he, hc⟩ => by subst he hc; exact hk
  | halt x w' => simp only [InvRun] at h
theorem op_call (f : FuncId) (t : Tmp) (u : Value) (ats : Array TypeId) (ho : ops[i]? = some { dst := some d, op := .call { callee := .value (.func f), args := #[.tmp t], argTypes := ats }, type := tt, pos := pos, after := af, guard := none })
    (he : ∀ v (W : World), (callFunc f #[v]).run Try.prog W = .ok (.enter f #[v]) W) (hx : a.eval (.tmp t) = u) (h : Calls Try.prog f #[u] w fun e w' => ∃ v, e = .returned v ∧ K (a.put (some d) v) w') : wpOp Try.prog ops Q i K a w := by
  refine wpOp_step ho (fun K' hK => ?_)
  have e : a.tmps[t]?.getD undef = u := by simpa [Act.eval] using hx
  go_simp
  refine h.mono ?_
  rintro e w' ⟨v, rfl, hk⟩
  exact hK _ _ hk
theorem op_alloc25 (ho : ops[i]? = some { dst := some d, op := .alloc 25, type := tt, pos := pos, after := af, guard := none })
    (hk : K (a.put (some d) (.pointer (some ⟨w.heap.size, 0, none⟩))) (w.alloc (.cells #[.int .i64 0, .int .i64 0, .int .i64 0, .int .i64 0, .int .i64 0, .int .i64 0, .int .u64 0, .int .u64 0, .int .u64 0, .int .i64 0, .slice none 0 0] 25))) : wpOp Try.prog ops Q i K a w := by
  refine wpOp_step ho (fun K' hK => ?_)
  go_simp
  exact hK _ _ hk
theorem op_alloc33 (ho : ops[i]? = some { dst := some d, op := .alloc 33, type := tt, pos := pos, after := af, guard := none })
    (hk : K (a.put (some d) (.pointer (some ⟨w.heap.size, 0, none⟩))) (w.alloc (.cells #[.int .i64 0, .int .i64 0, .int .u64 0, .int .u64 0, .slice none 0 0] 33))) : wpOp Try.prog ops Q i K a w := by
  refine wpOp_step ho (fun K' hK => ?_)
  go_simp
  exact hK _ _ hk
end
theorem enter9 : ∀ v (W : World), (callFunc 9 #[v]).run Try.prog W = .ok (.enter 9 #[v]) W := fun v W => run_enter (fn := Try.f9) (by kernel_rfl) (by kernel_rfl) (by kernel_rfl) _ W
theorem enter11 : ∀ v (W : World), (callFunc 11 #[v]).run Try.prog W = .ok (.enter 11 #[v]) W := fun v W => run_enter (fn := Try.f11) (by kernel_rfl) (by kernel_rfl) (by kernel_rfl) _ W
end Go.Proofs.Ytpejcndfplbikaa
