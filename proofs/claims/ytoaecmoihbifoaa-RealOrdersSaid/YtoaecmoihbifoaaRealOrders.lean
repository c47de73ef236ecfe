/-
  Proved: RealOrders answers true for every input: where any two reals stand, what stands beside them, and Two of them. No condition.
-/
import Derived.Test.YtoaecmoihbifoaaPv
import Derived.Test.YtoaecmoihbifoaaGen
namespace Go.Proofs.Ytoaecmoihbifoaa.lawRealOrders
open Go.ChangeShapes Go.WideShapes Go.ChangeAt Go.RowKit Go.K Go.R
set_option linter.unusedVariables false
set_option linter.unusedSimpArgs false

theorem u32_of_wf {n : Int} (h : (Lit.int .u32 n).wf = true) : ∃ x : Nat, x < 4294967296 ∧ n = (x : Int) := by
  have : 0 ≤ n ∧ n ≤ 4294967295 := by simpa [Lit.wf, IntKind.min, IntKind.max, IntKind.signed, IntKind.bits] using h
  exact ⟨n.toNat, by omega, by omega⟩
set_option maxRecDepth 100000 in
set_option maxHeartbeats 4000000 in
theorem walk (x y : Nat) (w : World) (hx : x < 4294967296) (hy : y < 4294967296) : Calls Try.prog 7 #[.int .u32 x, .int .u32 y] w fun e w' => e = .returned (.bool true) ∧ Below w.heap.size w w' := by
  have HO := Lib.hid (fun W => order_any x y hx hy W)
  have KO := Lib.hid (fun W => rorder_any x y hx hy W)
  have HA := Lib.hid (fun W => apart_any x y hx hy W)
  have KA := Lib.hid (fun W => rapart_any x y hx hy W)
  have HN := Lib.hid (fun W => next_any x hx W)
  have KN := Lib.hid (fun W => rnext_any x hx W)
  have HP := Lib.hid (fun W => prev_any x hx W)
  have KP := Lib.hid (fun W => rprev_any x hx W)
  have HT := Lib.hid (fun W => ptwo_any x y hx hy W)
  have KT := Lib.hid (fun W => rtwo_any x y hx hy W)
  generalize ordV x y = o at *
  generalize aptV x y = d at *
  generalize atV (plcV x + 1) = n at *
  generalize atV (plcV x - 1) = p at *
  generalize twoS x y = s at *
  generalize twoR x y = r at *
  have e1 : ((o : Int) != (o : Int)) = false := by simp
  have e2 : ((d : Int) != (d : Int)) = false := by simp
  have e3 : ((n : Int) == (n : Int)) = true := by simp
  have e4 : ((p : Int) == (p : Int)) = true := by simp
  have e5 : ((s : Int) == (s : Int)) = true := by simp
  have e6 : ((r : Int) == (r : Int)) = true := by simp
  have hb := Below.refl w.heap.size w
  go_enter Try.func7, Try.ntmps7
  go_wp2_with (first
    | (go_at_call 9; refine (f_any _ _).mono ?_; rintro e w1 ⟨rfl, rfl⟩)
    | (go_at_call 11; refine (b_any _ _).mono ?_; rintro e w1 ⟨rfl, rfl⟩)
    | (go_at_call 40; (with_reducible refine (HO.out _).mono ?_); rintro e w1 ⟨rfl, rfl⟩)
    | (go_at_call 41; (with_reducible refine (KO.out _).mono ?_); rintro e w1 ⟨rfl, rfl⟩)
    | (go_at_call 42; (with_reducible refine (HA.out _).mono ?_); rintro e w1 ⟨rfl, rfl⟩)
    | (go_at_call 43; (with_reducible refine (KA.out _).mono ?_); rintro e w1 ⟨rfl, rfl⟩)
    | (go_at_call 46; (with_reducible refine (HN.out _).mono ?_); rintro e w1 ⟨rfl, rfl⟩)
    | (go_at_call 47; (with_reducible refine (KN.out _).mono ?_); rintro e w1 ⟨rfl, rfl⟩)
    | (go_at_call 48; (with_reducible refine (HP.out _).mono ?_); rintro e w1 ⟨rfl, rfl⟩)
    | (go_at_call 49; (with_reducible refine (KP.out _).mono ?_); rintro e w1 ⟨rfl, rfl⟩)
    | (go_at_call 44; (with_reducible refine (HT.out _).mono ?_); rintro e w1 ⟨rfl, hl⟩; have hb := hb.trans (hl.mono hb.size))
    | (go_at_call 45; (with_reducible refine (KT.out _).mono ?_); rintro e w1 ⟨rfl, hl⟩; have hb := hb.trans (hl.mono hb.size)))
  go_ret
  exact ⟨rfl, hb⟩
theorem own : ownKnob Try.prog.godebug = none := by kernel_rfl
theorem laidOut : laidOutB Try.prog = true := by kernel_rfl
set_option maxRecDepth 100000 in
theorem lifted (os : Os) (started : os.Started) (H : Type) (enc : TypeId × Value → H) :
    ReturnsInHanded {} Try.checked os 7 .any (Rows.realOrdersSpec.pre6 enc Try.prog Try.f7 Rows.realOrdersRow.domain false) (Rows.realOrdersSpec.post enc Try.prog Try.f7 false true false false) := by
  refine returnsInHanded_of_change_sized (C := Try.checked) own started (by kernel_rfl) Try.func7
    (ChangeSpec.witness6 (enc := enc) (C := Try.checked) false ⟨#[], #[.int .u32 0, .int .u32 0], []⟩ 8 (by kernel_rfl) (by kernel_rfl) (by kernel_rfl) (by kernel_rfl)) ?_
  intro W base args ds gs before hval0 hW hcnd hsz0 _
  have hsz : (DataW.weightsEach Try.prog (Try.f7.params.toList ++ Rows.realOrdersSpec.plain.varTypes Try.prog) (ds ++ gs)).all (· ≤ reachBytes) = true := hsz0
  clear hsz0
  have hval : ∀ (j : Nat) t v, Try.f7.params[j]? = some t → args[j]? = some v → Value.okWide Try.prog W .any base t v := hval0
  have hW' := hW
  obtain ⟨p, q, hA0, hV, rfl, hfz, hnd⟩ := hW
  have hA : DataW.TrodAll enc Try.prog W 0 (fun _ => true) true Try.f7.params.toList args.toList ds p := hA0
  rw [Try.params7] at hA hval hsz
  obtain ⟨v0, vs0, d0, ds0, p0, q0, hargs, rfl, rfl, h0, r0⟩ := trodAll_cons hA
  obtain ⟨v1, vs1, d1, ds1, p1, q1, rfl, rfl, rfl, h1, r1⟩ := trodAll_cons r0
  obtain ⟨rfl, rfl, rfl⟩ := trodAll_nil r1
  obtain rfl : args = #[v0, v1] := by cases args; simp_all
  obtain ⟨rfl, rfl⟩ := trodVars_none hV
  obtain ⟨a0, rfl, rfl, rfl, w0⟩ := open_int Try.underlying22 (hval 0 22 v0 rfl rfl) h0
  obtain ⟨x0, y0, rfl⟩ := u32_of_wf w0
  obtain ⟨a1, rfl, rfl, rfl, w1⟩ := open_int Try.underlying22 (hval 1 22 v1 rfl rfl) h1
  obtain ⟨x1, y1, rfl⟩ := u32_of_wf w1
  clear hA0 hval0
  refine (walk x0 x1 W y0 y1).mono fun e W' ⟨he, bel⟩ => ?_
  subst he
  exact ⟨_, rfl, _, _, _, [], _, [], hW', trodAll_mk1 (shut_bool Try.underlying4 _), (trodAll_cons_mk (shut_int Try.underlying22 w0) (trodAll_cons_mk (shut_int Try.underlying22 w1) trodAll_mk0)), rfl, bel.frame _, fun h => by cases h⟩
theorem over : Rows.realOrdersRow.holds Try.pinned (OpenSpec.ofChange Rows.realOrdersSpec) :=
  OpenClaim.holds_of_wide 7 Try.f7 rfl rfl rfl rfl rfl rfl rfl ⟨rfl, rfl, rfl, rfl, rfl⟩ rfl rfl rfl rfl rfl (by kernel_rfl) Try.func7 (by kernel_rfl)
    (of_decide_eq_true (by kernel_rfl)) (by unfold Func.isWrapper; first | (rw [if_pos (by decide +kernel)]; kernel_rfl) | (rw [if_neg (by decide +kernel)]; exact ⟨rfl, rfl⟩))
    (fun os started H enc _ => lifted os started H enc)
theorem proved : Rows.RealOrdersSaid := over
#print axioms proved
end Go.Proofs.Ytoaecmoihbifoaa.lawRealOrders
