/-
  Layer 1: a part and its rest, in the order that is drawn (three blocks are made at any time).
-/
import Derived.Test.YtdkfaicmdbhonaaXa
import Derived.Test.YtdkfaicmdbhonaaPuts
import Derived.Test.YtdkfaicmdbhonaaPz
namespace Go.Proofs.Ytdkfaicmdbhonaa
open Go.RowKit Go.K Go.ChangeShapes Go.WideShapes Go.ChangeAt Go.Words
set_option linter.unusedVariables false
set_option linter.unusedSimpArgs false
section
variable {ops : Array Oper} {Q : Exit → Act → World → Prop} {i : Nat} {K : Act → World → Prop} {a : Act} {w : World}
theorem op_pure {o : Oper} (u : Value) (ho : ops[i]? = some o) (hg : o.guard = none) (hr : (execOp a.eval o).run Try.prog w = .ok (.value u) w) (hk : K (a.put o.dst u) w) : wpOp Try.prog ops Q i K a w := by
  refine wpOp_step ho (fun K' hK => ?_)
  rw [if_pos (by simp [Region.wanted, hg])]
  unfold Oper.wp
  rw [hr]
  exact hK _ _ hk
theorem ex_move {d : Option Tmp} {t : Tmp} {tt : TypeId} {pos : String} {af : Array Edge} {u : Value} (hx : a.eval (.tmp t) = u) : (execOp a.eval { dst := d, op := .move (.tmp t), type := tt, pos := pos, after := af, guard := none }).run Try.prog w = .ok (.value u) w := by
  have e : a.tmps[t]?.getD undef = u := by simpa [Act.eval] using hx
  go_simp
theorem ex_assign {d : Option Tmp} {t : Tmp} {tt : TypeId} {pos : String} {af : Array Edge} {u : Value} (hx : a.eval (.tmp t) = u) : (execOp a.eval { dst := d, op := .assign (.tmp t), type := tt, pos := pos, after := af, guard := none }).run Try.prog w = .ok (.value u) w := by
  have e : a.tmps[t]?.getD undef = u := by simpa [Act.eval] using hx
  go_simp
theorem ex_extract {d : Option Tmp} {t : Tmp} {n : Nat} {tt : TypeId} {pos : String} {af : Array Edge} {vs : Array Value} {u : Value} (hx : a.eval (.tmp t) = .tuple vs) (hu : vs[n]? = some u) : (execOp a.eval { dst := d, op := .extract (.tmp t) n, type := tt, pos := pos, after := af, guard := none }).run Try.prog w = .ok (.value u) w := by
  have e : a.tmps[t]?.getD undef = .tuple vs := by simpa [Act.eval] using hx
  go_simp
theorem ex_index22 {d : Option Tmp} {t s : Tmp} {tt : TypeId} {pos : String} {af : Array Edge} {b off len cap k : Nat} (hx : a.eval (.tmp t) = .slice (some ⟨b, off, none⟩) len cap) (hy : a.eval (.tmp s) = .int .i64 k) (hk : k < len) : (execOp a.eval { dst := d, op := .indexAddr 22 (.tmp t) (.tmp s), type := tt, pos := pos, after := af, guard := none }).run Try.prog w = .ok (.value (.pointer (some ⟨b, off + k, none⟩))) w := by
  have e : a.tmps[t]?.getD undef = .slice (some ⟨b, off, none⟩) len cap := by simpa [Act.eval] using hx
  have e2 : a.tmps[s]?.getD undef = .int .i64 k := by simpa [Act.eval] using hy
  have e3 : (k : Int) < (len : Int) := by omega
  go_simp
theorem ex_load24 {d : Option Tmp} {t : Tmp} {tt : TypeId} {pos : String} {af : Array Edge} {b o : Nat} {n : Int} (hx : a.eval (.tmp t) = .pointer (some ⟨b, o, none⟩)) (h0 : w.cell? ⟨b, o, none⟩ = some (.int .u64 n)) :
    (execOp a.eval { dst := d, op := .load 24 (.tmp t), type := tt, pos := pos, after := af, guard := none }).run Try.prog w = .ok (.value (.int .u64 n)) w := by
  have e : a.tmps[t]?.getD undef = .pointer (some ⟨b, o, none⟩) := by simpa [Act.eval] using hx
  go_simp
variable {d : Tmp} {tt : TypeId} {pos : String} {af : Array Edge}
theorem op_call1 (f : FuncId) (t : Tmp) (u : Value) (ats : Array TypeId) (ho : ops[i]? = some { dst := some d, op := .call { callee := .value (.func f), args := #[.tmp t], argTypes := ats }, type := tt, pos := pos, after := af, guard := none })
    (he : ∀ v (W : World), (callFunc f #[v]).run Try.prog W = .ok (.enter f #[v]) W) (hx : a.eval (.tmp t) = u) (h : Calls Try.prog f #[u] w fun e w' => ∃ v, e = .returned v ∧ K (a.put (some d) v) w') : wpOp Try.prog ops Q i K a w := by
  refine wpOp_step ho (fun K' hK => ?_)
  have e : a.tmps[t]?.getD undef = u := by simpa [Act.eval] using hx
  go_simp
  refine h.mono ?_
  rintro e w' ⟨v, rfl, hk⟩
  exact hK _ _ hk
theorem op_call3 (f : FuncId) (t1 t2 t3 : Tmp) (u1 u2 u3 : Value) (ats : Array TypeId) (ho : ops[i]? = some { dst := some d, op := .call { callee := .value (.func f), args := #[.tmp t1, .tmp t2, .tmp t3], argTypes := ats }, type := tt, pos := pos, after := af, guard := none })
    (he : ∀ v1 v2 v3 (W : World), (callFunc f #[v1, v2, v3]).run Try.prog W = .ok (.enter f #[v1, v2, v3]) W) (h1 : a.eval (.tmp t1) = u1) (h2 : a.eval (.tmp t2) = u2) (h3 : a.eval (.tmp t3) = u3) (h : Calls Try.prog f #[u1, u2, u3] w fun e w' => ∃ v, e = .returned v ∧ K (a.put (some d) v) w') : wpOp Try.prog ops Q i K a w := by
  refine wpOp_step ho (fun K' hK => ?_)
  have e1 : a.tmps[t1]?.getD undef = u1 := by simpa [Act.eval] using h1
  have e2 : a.tmps[t2]?.getD undef = u2 := by simpa [Act.eval] using h2
  have e3 : a.tmps[t3]?.getD undef = u3 := by simpa [Act.eval] using h3
  go_simp
  refine h.mono ?_
  rintro e w' ⟨v, rfl, hk⟩
  exact hK _ _ hk
theorem op_call4 (f : FuncId) (t1 t2 t3 t4 : Tmp) (u1 u2 u3 u4 : Value) (ats : Array TypeId) (ho : ops[i]? = some { dst := some d, op := .call { callee := .value (.func f), args := #[.tmp t1, .tmp t2, .tmp t3, .tmp t4], argTypes := ats }, type := tt, pos := pos, after := af, guard := none })
    (he : ∀ v1 v2 v3 v4 (W : World), (callFunc f #[v1, v2, v3, v4]).run Try.prog W = .ok (.enter f #[v1, v2, v3, v4]) W) (h1 : a.eval (.tmp t1) = u1) (h2 : a.eval (.tmp t2) = u2) (h3 : a.eval (.tmp t3) = u3) (h4 : a.eval (.tmp t4) = u4) (h : Calls Try.prog f #[u1, u2, u3, u4] w fun e w' => ∃ v, e = .returned v ∧ K (a.put (some d) v) w') : wpOp Try.prog ops Q i K a w := by
  refine wpOp_step ho (fun K' hK => ?_)
  have e1 : a.tmps[t1]?.getD undef = u1 := by simpa [Act.eval] using h1
  have e2 : a.tmps[t2]?.getD undef = u2 := by simpa [Act.eval] using h2
  have e3 : a.tmps[t3]?.getD undef = u3 := by simpa [Act.eval] using h3
  have e4 : a.tmps[t4]?.getD undef = u4 := by simpa [Act.eval] using h4
  go_simp
  refine h.mono ?_
  rintro e w' ⟨v, rfl, hk⟩
  exact hK _ _ hk
theorem op_alloc42 (ho : ops[i]? = some { dst := some d, op := .alloc 42, type := tt, pos := pos, after := af, guard := none })
    (hk : K (a.put (some d) (.pointer (some ⟨w.heap.size, 0, none⟩))) (w.alloc (.cells #[.bool false, .slice none 0 0] 42))) : wpOp Try.prog ops Q i K a w := by
  refine wpOp_step ho (fun K' hK => ?_)
  go_simp
  exact hK _ _ hk
end
theorem run_enter {f : FuncId} {fn : Func} (hf : Try.prog.funcs[f]? = some fn) (hn : (fn.name == "runtime.NumGoroutine") = false) (hb : fn.body.isSome = true) (args : Array Value) (w : World) : (callFunc f args).run Try.prog w = .ok (.enter f args) w := by
  have h1 : fn.name ≠ "runtime.NumGoroutine" := by simpa using hn
  obtain ⟨c, hc⟩ := Option.isSome_iff_exists.1 hb
  simp [callFunc, hf, h1, hc]
theorem enter26 : ∀ v (W : World), (callFunc 26 #[v]).run Try.prog W = .ok (.enter 26 #[v]) W := fun v W => run_enter (fn := Try.f26) (by kernel_rfl) (by kernel_rfl) (by kernel_rfl) _ W
theorem enter25 : ∀ v1 v2 v3 (W : World), (callFunc 25 #[v1, v2, v3]).run Try.prog W = .ok (.enter 25 #[v1, v2, v3]) W := fun v1 v2 v3 W => run_enter (fn := Try.f25) (by kernel_rfl) (by kernel_rfl) (by kernel_rfl) _ W
theorem enter58 : ∀ v1 v2 v3 v4 (W : World), (callFunc 58 #[v1, v2, v3, v4]).run Try.prog W = .ok (.enter 58 #[v1, v2, v3, v4]) W := fun v1 v2 v3 v4 W => run_enter (fn := Try.f58) (by kernel_rfl) (by kernel_rfl) (by kernel_rfl) _ W
def ptr (g : Nat) : Value := .pointer (some ⟨g, 0, none⟩)
def SL : List Nat := [41, 42, 43, 44, 45, 46, 47, 48, 49, 50, 51, 52, 53, 40, 54, 55, 12, 13]
def BL : List Nat := [0, 1, 3, 8, 11]
/-- What an operation yields; of which blocks it speaks; what has come up when it has. -/
def VQ (vt va vi vp vx vs : Value) (G : Nat → Nat) : Nat → Value
  | 0 => ptr (G 0) | 1 => ptr (G 1) | 2 => vt | 3 => ptr (G 3) | 4 => va | 5 => vi | 6 => vp | 7 => vx | 8 => ptr (G 8) | 9 => ptr (G 1) | 10 => vs | 11 => ptr (G 11)
  | 12 => .tuple #[ptr (G 0), ptr (G 11)] | 13 => .tuple #[ptr (G 0), ptr (G 11)] | 14 => ptr (G 0) | 15 => ptr (G 11) | 16 => ptr (G 0) | 17 => ptr (G 11) | _ => undef
def US : Nat → List Nat
  | 0 => [0] | 1 => [1] | 3 => [3] | 8 => [8] | 9 => [1] | 11 => [11] | 12 => [0, 11] | 13 => [0, 11] | 14 => [0] | 15 => [11] | 16 => [0] | 17 => [11] | _ => []
theorem VQ_congr {vt va vi vp vx vs : Value} {G G' : Nat → Nat} : ∀ (j : Nat), (∀ k ∈ US j, G k = G' k) → VQ vt va vi vp vx vs G j = VQ vt va vi vp vx vs G' j := by
  intro j h
  unfold VQ
  unfold US at h
  split <;> first | rfl | (simp at h; simp [h])
def CL : List (Nat × Nat) := [(9, 1), (9, 3), (9, 8), (12, 0), (12, 1), (12, 3), (12, 8), (12, 9), (12, 11), (13, 0), (13, 11), (14, 0), (15, 11), (16, 0), (17, 11)]
def ZQ (t X S : Nat) (f : Nat → Bool) : Nat → Option Int
  | 0 => if f 12 = true then some ((t * X / S : Nat) : Int) else none
  | 1 => if f 9 = true then some ((t * X : Nat) : Int) else none
  | 3 => some (t : Int)
  | 8 => some (X : Int)
  | 11 => if f 12 = true then some ((t * X % S : Nat) : Int) else none
  | _ => none
def onF (f : Nat → Bool) (i : Nat) : Nat → Bool := fun j => if j = i then true else f j
theorem zq_0 {t X S : Nat} {f : Nat → Bool} (h : f 12 = true) : ZQ t X S f 0 = some ((t * X / S : Nat) : Int) := by simp only [ZQ]; rw [if_pos h]
theorem zq_11 {t X S : Nat} {f : Nat → Bool} (h : f 12 = true) : ZQ t X S f 11 = some ((t * X % S : Nat) : Int) := by simp only [ZQ]; rw [if_pos h]
theorem zq_1 {t X S : Nat} {f : Nat → Bool} (h : f 9 = true) : ZQ t X S f 1 = some ((t * X : Nat) : Int) := by simp only [ZQ]; rw [if_pos h]
structure QZ (w0 : World) (t X S : Nat) (vt va vi vp vx vs : Value) (f : Nat → Bool) (x : Nat → Value) (G : Nat → Nat) (w : World) : Prop where
  bel : Below w0.heap.size w0 w
  cl : ∀ j k, (j, k) ∈ CL → f j = true → f k = true
  lo : ∀ i ∈ BL, f i = true → w0.heap.size ≤ G i
  ls : ∀ i ∈ BL, f i = true → (f 12 = true ∧ i ≠ 0 ∧ i ≠ 11) ∨ Lies w (G i) (ZQ t X S f i)
  nd : ∀ i ∈ BL, ∀ j ∈ BL, f i = true → f j = true → i ≠ j → G i ≠ G j
  vl : ∀ j, j < 18 → f j = true → x (SL.getD j 0) = VQ vt va vi vp vx vs G j
theorem SL_inj : ∀ i, i < 18 → ∀ j, j < 18 → i ≠ j → SL.getD j 0 ≠ SL.getD i 0 := by decide
theorem SL_mem : ∀ i, i < 18 → SL.getD i 0 ∈ SL := by decide
theorem US_cl : ∀ j, j < 18 → ∀ k ∈ US j, k = j ∨ (j, k) ∈ CL := by decide
theorem BL_cl : ∀ i ∈ BL, (12, i) ∈ CL := by decide
theorem on_of {f : Nat → Bool} {i j : Nat} (h : f j = true) : onF f i j = true := by unfold onF; split; rfl; exact h
theorem on_self (f : Nat → Bool) (i : Nat) : onF f i i = true := by unfold onF; rw [if_pos rfl]
theorem on_ne {f : Nat → Bool} {i j : Nat} (h : j ≠ i) : onF f i j = f j := by unfold onF; rw [if_neg h]
theorem on_get {f : Nat → Bool} {i j : Nat} (h : onF f i j = true) : j = i ∨ f j = true := by
  by_cases e : j = i
  · exact .inl e
  · rw [on_ne e] at h; exact .inr h
theorem cl_on {f : Nat → Bool} {i : Nat} (h : ∀ j k, (j, k) ∈ CL → f j = true → f k = true) (hi : ∀ k, (i, k) ∈ CL → f k = true) : ∀ j k, (j, k) ∈ CL → onF f i j = true → onF f i k = true := by
  intro j k hm hj
  rcases on_get hj with e | e
  · subst e; exact on_of (hi k hm)
  · exact on_of (h j k hm e)
theorem zq_on {t X S : Nat} {f : Nat → Bool} {i : Nat} (h9 : i ≠ 9) (h12 : i ≠ 12) (b : Nat) : ZQ t X S (onF f i) b = ZQ t X S f b := by
  unfold ZQ
  rw [on_ne (Ne.symm h9), on_ne (Ne.symm h12)]
section
variable {w0 w w' : World} {t X S : Nat} {vt va vi vp vx vs : Value} {f : Nat → Bool} {x : Nat → Value} {G : Nat → Nat} {i : Nat}
theorem QZ.pure (h : QZ w0 t X S vt va vi vp vx vs f x G w) (hi : i < 18) (hn : i ∉ BL) (h9 : i ≠ 9) (h12 : i ≠ 12) (hcl : ∀ k, (i, k) ∈ CL → f k = true) :
    QZ w0 t X S vt va vi vp vx vs (onF f i) (updV x (SL.getD i 0) (VQ vt va vi vp vx vs G i)) G w := by
  have hb : ∀ b ∈ BL, onF f i b = true → f b = true := fun b hb hf => (on_get hf).resolve_left (fun e => hn (e ▸ hb))
  refine ⟨h.bel, cl_on h.cl hcl, fun b hm hf => h.lo b hm (hb b hm hf), fun b hm hf => ?_, fun b hm c hm2 hf hf2 => h.nd b hm c hm2 (hb b hm hf) (hb c hm2 hf2), fun j hj hf => ?_⟩
  · rw [zq_on h9 h12, on_ne (Ne.symm h12)]
    exact h.ls b hm (hb b hm hf)
  · unfold updV
    rcases on_get hf with e | e
    · subst e; rw [if_pos rfl]
    · by_cases e2 : j = i
      · subst e2; rw [if_pos rfl]
      · rw [if_neg (SL_inj i hi j hj (Ne.symm e2))]; exact h.vl j hj e
theorem QZ.make (h : QZ w0 t X S vt va vi vp vx vs f x G w) (hi : i < 18) (hm : i ∈ BL) (hfi : f i = false) (hb : Below w.heap.size w w') (hl : Lies w' w.heap.size (ZQ t X S (fun _ => false) i)) :
    QZ w0 t X S vt va vi vp vx vs (onF f i) (updV x (SL.getD i 0) (ptr w.heap.size)) (fun k => if k = i then w.heap.size else G k) w' := by
  have h12 : f 12 = false := by
    cases hc : f 12
    · rfl
    · have := h.cl 12 i (BL_cl i hm) hc; rw [hfi] at this; cases this
  have hcl : ∀ k, (i, k) ∈ CL → f k = true := by
    intro k hk
    have hno : ∀ i ∈ BL, ∀ p ∈ CL, p.1 ≠ i := by decide
    exact absurd rfl (hno i hm (i, k) hk)
  have hz : ZQ t X S (onF f i) i = ZQ t X S (fun _ => false) i := by
    have hi2 : i = 0 ∨ i = 1 ∨ i = 3 ∨ i = 8 ∨ i = 11 := by simpa [BL] using hm
    rcases hi2 with rfl | rfl | rfl | rfl | rfl
    · rw [zq_on (by decide) (by decide)]; simp [ZQ, h12]
    · have h9 : f 9 = false := by
        cases hc : f 9
        · rfl
        · have := h.cl 9 1 (by decide) hc; rw [hfi] at this; cases this
      rw [zq_on (by decide) (by decide)]; simp [ZQ, h9]
    · rfl
    · rfl
    · rw [zq_on (by decide) (by decide)]; simp [ZQ, h12]
  have hi9 : i ≠ 9 := fun e => by subst e; revert hm; decide
  have hi12 : i ≠ 12 := fun e => by subst e; revert hm; decide
  have hlt : ∀ b ∈ BL, f b = true → G b < w.heap.size := fun b hmb hf => by
    rcases h.ls b hmb hf with h1 | h1
    · rw [h12] at h1; cases h1.1
    · exact isInt_lt h1.isInt
  refine ⟨h.bel.trans (hb.mono h.bel.size), cl_on h.cl hcl, fun b hmb hf => ?_, fun b hmb hf => .inr ?_, fun b hmb c hmc hf hf2 hne => ?_, fun j hj hf => ?_⟩
  · by_cases e : b = i
    · simp only [if_pos e]; exact h.bel.size
    · simp only [if_neg e]; exact h.lo b hmb ((on_get hf).resolve_left e)
  · by_cases e : b = i
    · subst e; simp only [if_true]; rw [hz]; exact hl
    · simp only [if_neg e]
      rw [zq_on hi9 hi12]
      rcases h.ls b hmb ((on_get hf).resolve_left e) with h1 | h1
      · rw [h12] at h1; cases h1.1
      · exact h1.kept hb
  · by_cases e : b = i
    · by_cases e2 : c = i
      · exact absurd (e.trans e2.symm) hne
      · simp only [if_pos e, if_neg e2]
        have := hlt c hmc ((on_get hf2).resolve_left e2); omega
    · by_cases e2 : c = i
      · simp only [if_neg e, if_pos e2]
        have := hlt b hmb ((on_get hf).resolve_left e); omega
      · simp only [if_neg e, if_neg e2]
        exact h.nd b hmb c hmc ((on_get hf).resolve_left e) ((on_get hf2).resolve_left e2) hne
  · unfold updV
    by_cases e : j = i
    · subst e
      rw [if_pos rfl]
      have hi2 : j = 0 ∨ j = 1 ∨ j = 3 ∨ j = 8 ∨ j = 11 := by simpa [BL] using hm
      rcases hi2 with rfl | rfl | rfl | rfl | rfl <;> rfl
    · rw [if_neg (SL_inj i hi j hj (Ne.symm e))]
      have hfj := (on_get hf).resolve_left e
      rw [h.vl j hj hfj]
      apply VQ_congr
      intro k hk
      have hki : k ≠ i := by
        rintro rfl
        rcases US_cl j hj k hk with e3 | e3
        · exact e e3.symm
        · have := h.cl j k e3 hfj; rw [hfi] at this; cases this
      simp only [if_neg hki]
theorem QZ.not12 (h : QZ w0 t X S vt va vi vp vx vs f x G w) (hf : f 9 = false) : f 12 = false := by
  cases hc : f 12
  · rfl
  · have := h.cl 12 9 (by decide) hc; rw [hf] at this; cases this
theorem QZ.lies (h : QZ w0 t X S vt va vi vp vx vs f x G w) (h12 : f 12 = false) {b : Nat} (hb : b ∈ BL) (hf : f b = true) : Lies w (G b) (ZQ t X S f b) := by
  rcases h.ls b hb hf with h1 | h1
  · rw [h12] at h1; cases h1.1
  · exact h1
theorem QZ.mul (h : QZ w0 t X S vt va vi vp vx vs f x G w) (hf9 : f 9 = false) (h1 : f 1 = true) (h3 : f 3 = true) (h8 : f 8 = true) (hg : w.grownBy w' (some (G 1))) (hz : IntAt w' (G 1) ((t * X : Nat) : Int)) :
    QZ w0 t X S vt va vi vp vx vs (onF f 9) (updV x 50 (ptr (G 1))) G w' := by
  have h12 := h.not12 hf9
  have hcl : ∀ k, (9, k) ∈ CL → f k = true := by
    intro k hk
    have : k = 1 ∨ k = 3 ∨ k = 8 := by simpa [CL] using hk
    rcases this with rfl | rfl | rfl
    · exact h1
    · exact h3
    · exact h8
  have hb : ∀ b ∈ BL, onF f 9 b = true → f b = true := fun b hb hf => (on_get hf).resolve_left (fun e => by subst e; revert hb; decide)
  have hr := (h.lies h12 (b := 1) (by decide) h1).isInt
  refine ⟨h.bel.grown hg h.bel.size (fun k hk => by cases hk; exact h.lo 1 (by decide) h1), cl_on h.cl hcl, fun b hm hf => h.lo b hm (hb b hm hf), fun b hm hf => .inr ?_, fun b hm c hm2 hf hf2 => h.nd b hm c hm2 (hb b hm hf) (hb c hm2 hf2), fun j hj hf => ?_⟩
  · by_cases e : b = 1
    · subst e
      rw [zq_1 (on_self f 9)]
      exact hz
    · have hk := (h.lies h12 hm (hb b hm hf)).away hr hg (h.nd 1 (by decide) b hm h1 (hb b hm hf) (Ne.symm e))
      have hze : ZQ t X S (onF f 9) b = ZQ t X S f b := by
        have hi2 : b = 0 ∨ b = 1 ∨ b = 3 ∨ b = 8 ∨ b = 11 := by simpa [BL] using hm
        rcases hi2 with rfl | rfl | rfl | rfl | rfl
        · show (if onF f 9 12 = true then _ else _) = (if f 12 = true then _ else _); rw [on_ne (by decide)]
        · exact absurd rfl e
        · rfl
        · rfl
        · show (if onF f 9 12 = true then _ else _) = (if f 12 = true then _ else _); rw [on_ne (by decide)]
      rw [hze]; exact hk
  · unfold updV
    by_cases e : j = 9
    · subst e; rw [if_pos (show SL.getD 9 0 = 50 from rfl)]; rfl
    · rw [if_neg (show ¬ SL.getD j 0 = 50 from fun e2 => SL_inj 9 (by decide) j hj (Ne.symm e) e2)]; exact h.vl j hj ((on_get hf).resolve_left e)
theorem QZ.quo (h : QZ w0 t X S vt va vi vp vx vs f x G w) (hf12 : f 12 = false) (h0 : f 0 = true) (h9 : f 9 = true) (h11 : f 11 = true) (hb : Below w0.heap.size w0 w') (hq : IntAt w' (G 0) ((t * X / S : Nat) : Int)) (hr : IntAt w' (G 11) ((t * X % S : Nat) : Int)) :
    QZ w0 t X S vt va vi vp vx vs (onF f 12) (updV x 53 (.tuple #[ptr (G 0), ptr (G 11)])) G w' := by
  have hcl : ∀ k, (12, k) ∈ CL → f k = true := by
    intro k hk
    have : k = 0 ∨ k = 1 ∨ k = 3 ∨ k = 8 ∨ k = 9 ∨ k = 11 := by simpa [CL] using hk
    rcases this with rfl | rfl | rfl | rfl | rfl | rfl
    · exact h0
    · exact h.cl 9 1 (by decide) h9
    · exact h.cl 9 3 (by decide) h9
    · exact h.cl 9 8 (by decide) h9
    · exact h9
    · exact h11
  have hb2 : ∀ b ∈ BL, onF f 12 b = true → f b = true := fun b hb hf => (on_get hf).resolve_left (fun e => by subst e; revert hb; decide)
  refine ⟨hb, cl_on h.cl hcl, fun b hm hf => h.lo b hm (hb2 b hm hf), fun b hm hf => ?_, fun b hm c hm2 hf hf2 => h.nd b hm c hm2 (hb2 b hm hf) (hb2 c hm2 hf2), fun j hj hf => ?_⟩
  · by_cases e0 : b = 0
    · subst e0
      refine .inr ?_
      rw [zq_0 (on_self f 12)]
      exact hq
    · by_cases e1 : b = 11
      · subst e1
        refine .inr ?_
        rw [zq_11 (on_self f 12)]
        exact hr
      · exact .inl ⟨on_self f 12, e0, e1⟩
  · unfold updV
    by_cases e : j = 12
    · subst e; rw [if_pos (show SL.getD 12 0 = 53 from rfl)]; rfl
    · rw [if_neg (show ¬ SL.getD j 0 = 53 from fun e2 => SL_inj 12 (by decide) j hj (Ne.symm e) e2)]; exact h.vl j hj ((on_get hf).resolve_left e)
end
set_option maxRecDepth 100000 in
set_option maxHeartbeats 4000000 in
theorem qreg {Q : Exit → Act → World → Prop} {id : Nat} {l : List Oper} {a0 : Act} {w0 : World} {t0 t1 t2 t3 t4 t5 t6 t7 t8 t9 t10 t11 t12 t13 t14 t15 t16 t17 : TypeId} {p0 p1 p2 p3 p4 p5 p6 p7 p8 p9 p10 p11 p12 p13 p14 p15 p16 p17 : String} {f0 f1 f2 f3 f4 f5 f6 f7 f8 f9 f10 f11 f12 f13 f14 f15 f16 f17 : Array Edge} {s3 s8 s9 s12 : Array TypeId}
    (hl : l = [{ dst := some 41, op := .alloc 42, type := t0, pos := p0, after := f0, guard := none },
      { dst := some 42, op := .alloc 42, type := t1, pos := p1, after := f1, guard := none },
      { dst := some 43, op := .move (.tmp 0), type := t2, pos := p2, after := f2, guard := none },
      { dst := some 44, op := .call { callee := .value (.func 26), args := #[.tmp 43], argTypes := s3 }, type := t3, pos := p3, after := f3, guard := none },
      { dst := some 45, op := .move (.tmp 1), type := t4, pos := p4, after := f4, guard := none },
      { dst := some 46, op := .move (.tmp 11), type := t5, pos := p5, after := f5, guard := none },
      { dst := some 47, op := .indexAddr 22 (.tmp 45) (.tmp 46), type := t6, pos := p6, after := f6, guard := none },
      { dst := some 48, op := .load 24 (.tmp 47), type := t7, pos := p7, after := f7, guard := none },
      { dst := some 49, op := .call { callee := .value (.func 26), args := #[.tmp 48], argTypes := s8 }, type := t8, pos := p8, after := f8, guard := none },
      { dst := some 50, op := .call { callee := .value (.func 25), args := #[.tmp 42, .tmp 44, .tmp 49], argTypes := s9 }, type := t9, pos := p9, after := f9, guard := none },
      { dst := some 51, op := .move (.tmp 6), type := t10, pos := p10, after := f10, guard := none },
      { dst := some 52, op := .alloc 42, type := t11, pos := p11, after := f11, guard := none },
      { dst := some 53, op := .call { callee := .value (.func 58), args := #[.tmp 41, .tmp 50, .tmp 51, .tmp 52], argTypes := s12 }, type := t12, pos := p12, after := f12, guard := none },
      { dst := some 40, op := .move (.tmp 53), type := t13, pos := p13, after := f13, guard := none },
      { dst := some 54, op := .extract (.tmp 40) 0, type := t14, pos := p14, after := f14, guard := none },
      { dst := some 55, op := .extract (.tmp 40) 1, type := t15, pos := p15, after := f15, guard := none },
      { dst := some 12, op := .assign (.tmp 54), type := t16, pos := p16, after := f16, guard := none },
      { dst := some 13, op := .assign (.tmp 55), type := t17, pos := p17, after := f17, guard := none }])
    (hF : stateB l.toArray 18 = true) (hD : depB l [(3, 2), (6, 4), (6, 5), (7, 6), (8, 7), (9, 1), (9, 3), (9, 8), (12, 0), (12, 9), (12, 10), (12, 11), (13, 12), (14, 13), (15, 13), (16, 14), (17, 15)] = true) (hsz : 55 < a0.tmps.size)
    (t : BitVec 64) (X S gS ab ao k len cap : Nat) (h0 : a0.eval (.tmp 0) = .int .u64 (U64 t)) (h1 : a0.eval (.tmp 1) = .slice (some ⟨ab, ao, none⟩) len cap) (h6 : a0.eval (.tmp 6) = .pointer (some ⟨gS, 0, none⟩)) (h11 : a0.eval (.tmp 11) = .int .i64 k) (hk : k < len)
    (hc : w0.cell? ⟨ab, ao + k, none⟩ = some (.int .u64 (X : Int))) (hX : X < 18446744073709551616) (hS : IntAt w0 gS (S : Int)) (hS0 : 0 < S) (hS1 : S < 18446744073709551616)
    (hend : ∀ x w gq gr, x 12 = .pointer (some ⟨gq, 0, none⟩) → x 13 = .pointer (some ⟨gr, 0, none⟩) → IntAt w gq ((t.toNat * X / S : Nat) : Int) → IntAt w gr ((t.toNat * X % S : Nat) : Int) → w0.heap.size ≤ gq → w0.heap.size ≤ gr → Below w0.heap.size w0 w → wpList Try.prog l.toArray Q [] (putsF a0 SL x) w)
    : (Code.region id l.toArray true).wp Try.prog Q a0 w0 := by
  subst hl
  have HE := Lib.hid hend
  clear hend
  have hP : t.toNat * X < 340282366920938463463374607431768211456 := by
    have h1 := t.isLt
    have : t.toNat * X ≤ 18446744073709551615 * 18446744073709551615 := Nat.mul_le_mul (by omega) (by omega)
    omega
  refine wp_region_state 18 (fun f a w => ∃ x G, a = putsF a0 SL x ∧ QZ w0 t.toNat X S (.int .u64 (U64 t)) (.slice (some ⟨ab, ao, none⟩) len cap) (.int .i64 k) (.pointer (some ⟨ab, ao + k, none⟩)) (.int .u64 (X : Int)) (.pointer (some ⟨gS, 0, none⟩)) f x G w) (by kernel_rfl) hF
    ⟨_, fun _ => 0, putsF_self _ SL, ⟨(Qt.drewN w0 1).below _, (fun j k _ h => Bool.noConfusion h), (fun i _ h => Bool.noConfusion h), (fun i _ h => Bool.noConfusion h), (fun i _ j _ h => Bool.noConfusion h), (fun j _ h => Bool.noConfusion h)⟩⟩ ?_ ?_
  · rintro f a w i o ⟨x, G, rfl, hI⟩ ho hip hfi hdep
    have e0 : (putsF a0 SL x).eval (.tmp 0) = a0.eval (.tmp 0) := by rw [putsF_eval _ _ _ 0 (by omega), if_neg (by decide)]
    have e1 : (putsF a0 SL x).eval (.tmp 1) = a0.eval (.tmp 1) := by rw [putsF_eval _ _ _ 1 (by omega), if_neg (by decide)]
    have e6 : (putsF a0 SL x).eval (.tmp 6) = a0.eval (.tmp 6) := by rw [putsF_eval _ _ _ 6 (by omega), if_neg (by decide)]
    have e11 : (putsF a0 SL x).eval (.tmp 11) = a0.eval (.tmp 11) := by rw [putsF_eval _ _ _ 11 (by omega), if_neg (by decide)]
    have hev : ∀ t : Nat, t ∈ SL → t ≤ 55 → (putsF a0 SL x).eval (.tmp t) = x t := fun t ht h => by rw [putsF_eval _ _ _ t (by omega), if_pos ht]
    have hd : ∀ j, ([(3, 2), (6, 4), (6, 5), (7, 6), (8, 7), (9, 1), (9, 3), (9, 8), (12, 0), (12, 9), (12, 10), (12, 11), (13, 12), (14, 13), (15, 13), (16, 14), (17, 15)] : List (Nat × Nat)).contains (i, j) = true → f j = true := fun j hj => depB_spec hD (by simpa using hj) ho hdep
    have hcw := below_cell hI.bel hc
    rcases (by omega : i = 0 ∨ i = 1 ∨ i = 2 ∨ i = 3 ∨ i = 4 ∨ i = 5 ∨ i = 6 ∨ i = 7 ∨ i = 8 ∨ i = 9 ∨ i = 10 ∨ i = 11 ∨ i = 12 ∨ i = 13 ∨ i = 14 ∨ i = 15 ∨ i = 16 ∨ i = 17) with rfl | rfl | rfl | rfl | rfl | rfl | rfl | rfl | rfl | rfl | rfl | rfl | rfl | rfl | rfl | rfl | rfl | rfl
    · skip
      exact op_alloc42 rfl ⟨_, _, putsF_put _ _ _ _ _ (by decide), hI.make (i := 0) (by decide) (by decide) hfi ((Below.refl _ _).alloc (Nat.le_refl _) _) (isInt_new w)⟩
    · skip
      exact op_alloc42 rfl ⟨_, _, putsF_put _ _ _ _ _ (by decide), hI.make (i := 1) (by decide) (by decide) hfi ((Below.refl _ _).alloc (Nat.le_refl _) _) (isInt_new w)⟩
    · skip
      refine op_pure _ rfl rfl (ex_move (e0.trans h0)) ⟨_, _, putsF_put _ _ _ _ _ (by decide), hI.pure (i := 2) (by decide) (by decide) (by decide) (by decide) (fun k hk => ?_)⟩
      exact absurd hk (by simp [CL])
    · skip
      refine op_call1 26 43 _ s3 rfl enter26 ((hev 43 (by decide) (by decide)).trans (hI.vl 2 (by decide) (hd 2 (by kernel_rfl)))) ((big_any t w).mono ?_)
      rintro r w' ⟨hr, hi1, hb1⟩
      exact ⟨_, hr, _, _, putsF_put _ _ _ _ _ (by decide), hI.make (i := 3) (by decide) (by decide) hfi hb1 hi1⟩
    · skip
      refine op_pure _ rfl rfl (ex_move (e1.trans h1)) ⟨_, _, putsF_put _ _ _ _ _ (by decide), hI.pure (i := 4) (by decide) (by decide) (by decide) (by decide) (fun k hk => ?_)⟩
      exact absurd hk (by simp [CL])
    · skip
      refine op_pure _ rfl rfl (ex_move (e11.trans h11)) ⟨_, _, putsF_put _ _ _ _ _ (by decide), hI.pure (i := 5) (by decide) (by decide) (by decide) (by decide) (fun k hk => ?_)⟩
      exact absurd hk (by simp [CL])
    · skip
      refine op_pure _ rfl rfl (ex_index22 ((hev 45 (by decide) (by decide)).trans (hI.vl 4 (by decide) (hd 4 (by kernel_rfl)))) ((hev 46 (by decide) (by decide)).trans (hI.vl 5 (by decide) (hd 5 (by kernel_rfl)))) hk) ⟨_, _, putsF_put _ _ _ _ _ (by decide), hI.pure (i := 6) (by decide) (by decide) (by decide) (by decide) (fun k hk => ?_)⟩
      exact absurd hk (by simp [CL])
    · skip
      refine op_pure _ rfl rfl (ex_load24 ((hev 47 (by decide) (by decide)).trans (hI.vl 6 (by decide) (hd 6 (by kernel_rfl)))) hcw) ⟨_, _, putsF_put _ _ _ _ _ (by decide), hI.pure (i := 7) (by decide) (by decide) (by decide) (by decide) (fun k hk => ?_)⟩
      exact absurd hk (by simp [CL])
    · skip
      have hbx : Calls Try.prog 26 #[.int .u64 (X : Int)] w fun e w' => e = .returned (.pointer (some ⟨w.heap.size, 0, none⟩)) ∧ IntAt w' w.heap.size (X : Int) ∧ Below w.heap.size w w' := by
        have h := big_any (BitVec.ofNat 64 X) w
        have e : (BitVec.ofNat 64 X).toNat = X := by rw [BitVec.toNat_ofNat, Nat.mod_eq_of_lt (by omega)]
        rw [show U64 (BitVec.ofNat 64 X) = (X : Int) by unfold U64; rw [e], e] at h
        exact h
      refine op_call1 26 48 _ s8 rfl enter26 ((hev 48 (by decide) (by decide)).trans (hI.vl 7 (by decide) (hd 7 (by kernel_rfl)))) (hbx.mono ?_)
      rintro r w' ⟨hr, hi1, hb1⟩
      exact ⟨_, hr, _, _, putsF_put _ _ _ _ _ (by decide), hI.make (i := 8) (by decide) (by decide) hfi hb1 hi1⟩
    · skip
      have g1 := hd 1 (by kernel_rfl)
      have g3 := hd 3 (by kernel_rfl)
      have g8 := hd 8 (by kernel_rfl)
      have h12 := hI.not12 hfi
      have l1 := (hI.lies h12 (b := 1) (by decide) g1).isInt
      have l3 : IntAt w (G 3) ((t.toNat : Nat) : Int) := hI.lies h12 (b := 3) (by decide) g3
      have l8 : IntAt w (G 8) ((X : Nat) : Int) := hI.lies h12 (b := 8) (by decide) g8
      refine op_call3 25 42 44 49 _ _ _ s9 rfl enter25 ((hev 42 (by decide) (by decide)).trans (hI.vl 1 (by decide) (hd 1 (by kernel_rfl)))) ((hev 44 (by decide) (by decide)).trans (hI.vl 3 (by decide) (hd 3 (by kernel_rfl)))) ((hev 49 (by decide) (by decide)).trans (hI.vl 8 (by decide) (hd 8 (by kernel_rfl)))) ((mul_any (G 1) (G 3) (G 8) _ _ w l1 l3 l8 (bv_small t) (pw900_ge _ (by omega))).mono ?_)
      rintro r w' ⟨hr, hg, hz⟩
      rw [← Int.natCast_mul] at hz
      exact ⟨_, hr, _, _, putsF_put _ _ _ _ _ (by decide), hI.mul hfi g1 g3 g8 hg hz⟩
    · skip
      refine op_pure _ rfl rfl (ex_move (e6.trans h6)) ⟨_, _, putsF_put _ _ _ _ _ (by decide), hI.pure (i := 10) (by decide) (by decide) (by decide) (by decide) (fun k hk => ?_)⟩
      exact absurd hk (by simp [CL])
    · skip
      exact op_alloc42 rfl ⟨_, _, putsF_put _ _ _ _ _ (by decide), hI.make (i := 11) (by decide) (by decide) hfi ((Below.refl _ _).alloc (Nat.le_refl _) _) (isInt_new w)⟩
    · skip
      have g0 := hd 0 (by kernel_rfl)
      have g9 := hd 9 (by kernel_rfl)
      have g11 := hd 11 (by kernel_rfl)
      have g1 := hI.cl 9 1 (by decide) g9
      have l0 := (hI.lies hfi (b := 0) (by decide) g0).isInt
      have l11 := (hI.lies hfi (b := 11) (by decide) g11).isInt
      have l1 := hI.lies hfi (b := 1) (by decide) g1
      rw [zq_1 g9] at l1
      refine op_call4 58 41 50 51 52 _ _ _ _ s12 rfl enter58 ((hev 41 (by decide) (by decide)).trans (hI.vl 0 (by decide) (hd 0 (by kernel_rfl)))) ((hev 50 (by decide) (by decide)).trans (hI.vl 9 (by decide) (hd 9 (by kernel_rfl)))) ((hev 51 (by decide) (by decide)).trans (hI.vl 10 (by decide) (hd 10 (by kernel_rfl)))) ((hev 52 (by decide) (by decide)).trans (hI.vl 11 (by decide) (hd 11 (by kernel_rfl)))) ((quorem_any (G 0) (G 1) gS (G 11) (t.toNat * X) S w l0 l11 l1 (hS.kept hI.bel) hS0 (pw900_ge _ hP) (pw900_ge _ (by omega)) (hI.nd 0 (by decide) 11 (by decide) g0 g11 (by decide))).mono ?_)
      rintro r w' ⟨hr, ho, hq, hz⟩
      refine ⟨_, hr, _, _, putsF_put _ _ _ _ _ (by decide), hI.quo hfi g0 g9 g11 (hI.bel.trans (ho.below hI.bel.size (fun b hb => ?_))) hq hz⟩
      rcases hb with rfl | rfl
      · exact hI.lo 0 (by decide) g0
      · exact hI.lo 11 (by decide) g11
    · skip
      refine op_pure _ rfl rfl (ex_move ((hev 53 (by decide) (by decide)).trans (hI.vl 12 (by decide) (hd 12 (by kernel_rfl))))) ⟨_, _, putsF_put _ _ _ _ _ (by decide), hI.pure (i := 13) (by decide) (by decide) (by decide) (by decide) (fun k hk => ?_)⟩
      have hk2 : k = 0 ∨ k = 11 := by simpa [CL] using hk
      rcases hk2 with rfl | rfl
      · exact hI.cl 12 0 (by decide) (hd 12 (by kernel_rfl))
      · exact hI.cl 12 11 (by decide) (hd 12 (by kernel_rfl))
    · skip
      refine op_pure _ rfl rfl (ex_extract ((hev 40 (by decide) (by decide)).trans (hI.vl 13 (by decide) (hd 13 (by kernel_rfl)))) rfl) ⟨_, _, putsF_put _ _ _ _ _ (by decide), hI.pure (i := 14) (by decide) (by decide) (by decide) (by decide) (fun k hk => ?_)⟩
      have hk2 : k = 0 := by simpa [CL] using hk
      rcases hk2 with rfl
      · exact hI.cl 13 0 (by decide) (hd 13 (by kernel_rfl))
    · skip
      refine op_pure _ rfl rfl (ex_extract ((hev 40 (by decide) (by decide)).trans (hI.vl 13 (by decide) (hd 13 (by kernel_rfl)))) rfl) ⟨_, _, putsF_put _ _ _ _ _ (by decide), hI.pure (i := 15) (by decide) (by decide) (by decide) (by decide) (fun k hk => ?_)⟩
      have hk2 : k = 11 := by simpa [CL] using hk
      rcases hk2 with rfl
      · exact hI.cl 13 11 (by decide) (hd 13 (by kernel_rfl))
    · skip
      refine op_pure _ rfl rfl (ex_assign ((hev 54 (by decide) (by decide)).trans (hI.vl 14 (by decide) (hd 14 (by kernel_rfl))))) ⟨_, _, putsF_put _ _ _ _ _ (by decide), hI.pure (i := 16) (by decide) (by decide) (by decide) (by decide) (fun k hk => ?_)⟩
      have hk2 : k = 0 := by simpa [CL] using hk
      rcases hk2 with rfl
      · exact hI.cl 14 0 (by decide) (hd 14 (by kernel_rfl))
    · skip
      refine op_pure _ rfl rfl (ex_assign ((hev 55 (by decide) (by decide)).trans (hI.vl 15 (by decide) (hd 15 (by kernel_rfl))))) ⟨_, _, putsF_put _ _ _ _ _ (by decide), hI.pure (i := 17) (by decide) (by decide) (by decide) (by decide) (fun k hk => ?_)⟩
      have hk2 : k = 11 := by simpa [CL] using hk
      rcases hk2 with rfl
      · exact hI.cl 15 11 (by decide) (hd 15 (by kernel_rfl))
  · rintro f a w ⟨x, G, rfl, hI⟩ hf
    have g12 := hf 12 (by decide)
    have l0 := (hI.ls 0 (by decide) (hf 0 (by decide))).resolve_left (fun h => h.2.1 rfl)
    have l11 := (hI.ls 11 (by decide) (hf 11 (by decide))).resolve_left (fun h => h.2.2 rfl)
    rw [zq_0 g12] at l0
    rw [zq_11 g12] at l11
    exact HE.out x w (G 0) (G 11) (hI.vl 16 (by decide) (hf 16 (by decide))) (hI.vl 17 (by decide) (hf 17 (by decide))) l0 l11 (hI.lo 0 (by decide) (hf 0 (by decide))) (hI.lo 11 (by decide) (hf 11 (by decide))) hI.bel
end Go.Proofs.Ytdkfaicmdbhonaa
