/-
  Proved: RealOps answers true for every input: the sum, the difference, the product, the quotient of any two reals, the root of any, to the bit. No condition.
-/
import Derived.Test.YtoaecmoihbifoaaNo
import Derived.Test.YtoaecmoihbifoaaGen
namespace Go.Proofs.Ytoaecmoihbifoaa.lawRealOps
open Go.ChangeShapes Go.WideShapes Go.ChangeAt Go.RowKit Go.K Go.R
set_option linter.unusedVariables false
set_option linter.unusedSimpArgs false

theorem u32_of_wf {n : Int} (h : (Lit.int .u32 n).wf = true) : ∃ x : Nat, x < 4294967296 ∧ n = (x : Int) := by
  have : 0 ≤ n ∧ n ≤ 4294967295 := by simpa [Lit.wf, IntKind.min, IntKind.max, IntKind.signed, IntKind.bits] using h
  exact ⟨n.toNat, by omega, by omega⟩
set_option maxRecDepth 100000 in
set_option maxHeartbeats 4000000 in
theorem walk (x y : Nat) (w : World) (hx : x < 4294967296) (hy : y < 4294967296) : Calls Try.prog 4 #[.int .u32 x, .int .u32 y] w fun e w' => e = .returned (.bool true) ∧ Below w.heap.size w w' := by
  have HA := Lib.hid (fun W => padd_any x y W)
  have HS := Lib.hid (fun W => psub_any x y W)
  have HM := Lib.hid (fun W => pmul_any x y W)
  have HD := Lib.hid (fun W => pdiv_any x y W)
  have HQ := Lib.hid (fun W => psqrt_any x hx W)
  have KA := Lib.hid (fun W => radd_any x y hx hy W)
  have KS := Lib.hid (fun W => rsub_any x y hx hy W)
  have KM := Lib.hid (fun W => rmul_any x y hx hy W)
  have KD := Lib.hid (fun W => rdiv_any x y hx hy W)
  have KQ := Lib.hid (fun W => rsqrt_any x hx W)
  generalize opW (Ieee.single.add x y) = a at *
  generalize opW (Ieee.single.sub x y) = s at *
  generalize opW (Ieee.single.mul x y) = m at *
  generalize opW (Ieee.single.div x y) = d at *
  generalize sqV x = q at *
  have e1 : ((a : Int) != (a : Int)) = false := by simp
  have e2 : ((s : Int) != (s : Int)) = false := by simp
  have e3 : ((m : Int) == (m : Int)) = true := by simp
  have e4 : ((d : Int) == (d : Int)) = true := by simp
  have e5 : ((q : Int) == (q : Int)) = true := by simp
  have hb := Below.refl w.heap.size w
  go_enter Try.func4, Try.ntmps4
  go_wp2_with (first
    | (go_at_call 9; refine (f_any _ _).mono ?_; rintro e w1 ⟨rfl, rfl⟩)
    | (go_at_call 11; refine (b_any _ _).mono ?_; rintro e w1 ⟨rfl, rfl⟩)
    | (go_at_call 15; (with_reducible refine (HA.out _).mono ?_); rintro e w1 ⟨rfl, hq⟩; have hb := hb.trans ((hq.below _).mono hb.size))
    | (go_at_call 17; (with_reducible refine (HS.out _).mono ?_); rintro e w1 ⟨rfl, hq⟩; have hb := hb.trans ((hq.below _).mono hb.size))
    | (go_at_call 19; (with_reducible refine (HM.out _).mono ?_); rintro e w1 ⟨rfl, hq⟩; have hb := hb.trans ((hq.below _).mono hb.size))
    | (go_at_call 21; (with_reducible refine (HD.out _).mono ?_); rintro e w1 ⟨rfl, hq⟩; have hb := hb.trans ((hq.below _).mono hb.size))
    | (go_at_call 23; (with_reducible refine (HQ.out _).mono ?_); rintro e w1 ⟨rfl, hq⟩; have hb := hb.trans ((hq.below _).mono hb.size))
    | (go_at_call 16; (with_reducible refine (KA.out _).mono ?_); rintro e w1 ⟨rfl, hl⟩; have hb := hb.trans (hl.mono hb.size))
    | (go_at_call 18; (with_reducible refine (KS.out _).mono ?_); rintro e w1 ⟨rfl, hl⟩; have hb := hb.trans (hl.mono hb.size))
    | (go_at_call 20; (with_reducible refine (KM.out _).mono ?_); rintro e w1 ⟨rfl, hl⟩; have hb := hb.trans (hl.mono hb.size))
    | (go_at_call 22; (with_reducible refine (KD.out _).mono ?_); rintro e w1 ⟨rfl, hl⟩; have hb := hb.trans (hl.mono hb.size))
    | (go_at_call 24; (with_reducible refine (KQ.out _).mono ?_); rintro e w1 ⟨rfl, hl⟩; have hb := hb.trans (hl.mono hb.size)))
  go_ret
  exact ⟨rfl, hb⟩
theorem own : ownKnob Try.prog.godebug = none := by kernel_rfl
theorem laidOut : laidOutB Try.prog = true := by kernel_rfl
set_option maxRecDepth 100000 in
theorem lifted (os : Os) (started : os.Started) (H : Type) (enc : TypeId × Value → H) :
    ReturnsInHanded {} Try.checked os 4 .any (Rows.realOpsSpec.pre6 enc Try.prog Try.f4 Rows.realOpsRow.domain false) (Rows.realOpsSpec.post enc Try.prog Try.f4 false true false false) := by
  refine returnsInHanded_of_change_sized (C := Try.checked) own started (by kernel_rfl) Try.func4
    (ChangeSpec.witness6 (enc := enc) (C := Try.checked) false ⟨#[], #[.int .u32 0, .int .u32 0], []⟩ 8 (by kernel_rfl) (by kernel_rfl) (by kernel_rfl) (by kernel_rfl)) ?_
  intro W base args ds gs before hval0 hW hcnd hsz0 _
  have hsz : (DataW.weightsEach Try.prog (Try.f4.params.toList ++ Rows.realOpsSpec.plain.varTypes Try.prog) (ds ++ gs)).all (· ≤ reachBytes) = true := hsz0
  clear hsz0
  have hval : ∀ (j : Nat) t v, Try.f4.params[j]? = some t → args[j]? = some v → Value.okWide Try.prog W .any base t v := hval0
  have hW' := hW
  obtain ⟨p, q, hA0, hV, rfl, hfz, hnd⟩ := hW
  have hA : DataW.TrodAll enc Try.prog W 0 (fun _ => true) true Try.f4.params.toList args.toList ds p := hA0
  rw [Try.params4] at hA hval hsz
  obtain ⟨v0, vs0, d0, ds0, p0, q0, hargs, rfl, rfl, h0, r0⟩ := trodAll_cons hA
  obtain ⟨v1, vs1, d1, ds1, p1, q1, rfl, rfl, rfl, h1, r1⟩ := trodAll_cons r0
  obtain ⟨rfl, rfl, rfl⟩ := trodAll_nil r1
  obtain rfl : args = #[v0, v1] := by cases args; simp_all
  obtain ⟨rfl, rfl⟩ := trodVars_none hV
  obtain ⟨a0, rfl, rfl, rfl, w0⟩ := open_int Try.underlying22 (hval 0 22 v0 rfl rfl) h0
  obtain ⟨x0, y0, rfl⟩ := u32_of_wf w0
  obtain ⟨a1, rfl, rfl, rfl, w1⟩ := open_int Try.underlying22 (hval 1 22 v1 rfl rfl) h1
  obtain ⟨x1, y1, rfl⟩ := u32_of_wf w1
  clear hA0 hval0
  refine (walk x0 x1 W y0 y1).mono fun e W' ⟨he, bel⟩ => ?_
  subst he
  exact ⟨_, rfl, _, _, _, [], _, [], hW', trodAll_mk1 (shut_bool Try.underlying4 _), (trodAll_cons_mk (shut_int Try.underlying22 w0) (trodAll_cons_mk (shut_int Try.underlying22 w1) trodAll_mk0)), rfl, bel.frame _, fun h => by cases h⟩
theorem over : Rows.realOpsRow.holds Try.pinned (OpenSpec.ofChange Rows.realOpsSpec) :=
  OpenClaim.holds_of_wide 4 Try.f4 rfl rfl rfl rfl rfl rfl rfl ⟨rfl, rfl, rfl, rfl, rfl⟩ rfl rfl rfl rfl rfl (by kernel_rfl) Try.func4 (by kernel_rfl)
    (of_decide_eq_true (by kernel_rfl)) (by unfold Func.isWrapper; first | (rw [if_pos (by decide +kernel)]; kernel_rfl) | (rw [if_neg (by decide +kernel)]; exact ⟨rfl, rfl⟩))
    (fun os started H enc _ => lifted os started H enc)
theorem proved : Rows.RealOpsSaid := over
#print axioms proved
end Go.Proofs.Ytoaecmoihbifoaa.lawRealOps
