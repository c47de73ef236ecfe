/-
  Proved: SumLong answers true for every input: joined with two pieces of zeros a sum is as joined with one of both lengths. No condition.
-/
import Derived.Test.YtdphcmmpkacmfaaLa
import Derived.Test.YtdphcmmpkacmfaaOpen
namespace Go.Proofs.Ytdphcmmpkacmfaa.lawSumLong
open Go.ChangeShapes Go.WideShapes Go.ChangeAt Go.RowKit Go.K
set_option linter.unusedVariables false
attribute [local go_sem] xor_U64 and_U64 or_U64 wrap_U64 wrap_U8 ofInt_add64 ofInt_mul64 ofInt_neg64 shr_U64_1 shr_U64_4 U64_ofInt U8_ofInt64 u64_signed u64_compl

theorem walk (a : BitVec 64) (one two : Int) (w : World) (h1 : -9223372036854775808 ≤ one ∧ one ≤ 9223372036854775807) (h2 : -9223372036854775808 ≤ two ∧ two ≤ 9223372036854775807) :
    Calls Try.prog 3 #[.int .u64 (U64 a), .int .i64 one, .int .i64 two] w fun e w' => e = .returned (.bool true) ∧ Below w.heap.size w w' := by
  go_enter Try.func3, Try.ntmps3
  go_wp2_with fail
  refine (awake_any _).mono ?_
  rintro e w1 ⟨rfl, hb⟩
  have HB := Lib.hid hb
  clear hb
  by_cases c1 : one < 0
  · have t1 : decide (one < 0) = true := by simp; omega
    go_wp2_with fail
    refine (join_neg a 0#64 one _ c1).mono ?_
    rintro e w2 ⟨rfl, rfl⟩
    go_wp2_with (go_at_call 13; refine (num_any _ _).mono ?_; rintro e w' ⟨rfl, rfl⟩)
    go_ret
    exact ⟨rfl, HB.out⟩
  have t1 : decide (one < 0) = false := by simp; omega
  obtain ⟨n, rfl⟩ := Int.eq_ofNat_of_zero_le (show 0 ≤ one by omega)
  clear c1
  go_wp2_with fail
  refine (join_any a 0#64 n _ (by omega)).mono ?_
  rintro e w2 ⟨rfl, hb⟩
  have HB2 := Lib.hid (HB.out.trans (hb.mono HB.out.size))
  clear hb HB
  have PX := Lib.hid (join_plain a n)
  obtain ⟨x, hx⟩ : ∃ x, x = joinRest a M0 n ^^^ 0#64 := ⟨_, rfl⟩
  rw [← hx]
  have HX := Lib.hid (show x = iterB (8 * n) a by rw [hx, PX.out]; simp)
  clear hx PX
  by_cases c2 : two < 0
  · have t2 : decide (two < 0) = true := by simp; omega
    go_wp2_with fail
    refine (join_neg x 0#64 two _ c2).mono ?_
    rintro e w2 ⟨rfl, rfl⟩
    go_wp2_with (go_at_call 13; refine (num_any _ _).mono ?_; rintro e w' ⟨rfl, rfl⟩)
    go_ret
    exact ⟨rfl, HB2.out⟩
  have t2 : decide (two < 0) = false := by simp; omega
  obtain ⟨m, rfl⟩ := Int.eq_ofNat_of_zero_le (show 0 ≤ two by omega)
  clear c2
  go_wp2_with fail
  refine (join_any x 0#64 m _ (by omega)).mono ?_
  rintro e w3 ⟨rfl, hb⟩
  have HB3 := Lib.hid (HB2.out.trans (hb.mono HB2.out.size))
  clear hb HB2
  obtain ⟨y, hy⟩ : ∃ y, y = joinRest x M0 m ^^^ 0#64 := ⟨_, rfl⟩
  rw [← hy]
  have HY := Lib.hid (show y = iterB (8 * (n + m)) a by rw [hy, join_plain, HX.out, ← iterB_add, Nat.mul_add, Nat.add_comm (8 * n)]; simp)
  clear hy
  by_cases c3 : (9223372036854775807 : Int) - (n : Int) < (m : Int)
  · go_wp2_with (go_at_call 13; refine (num_any _ _).mono ?_; rintro e w' ⟨rfl, rfl⟩)
    go_ret
    exact ⟨rfl, HB3.out⟩
  go_wp2_with fail
  rw [show (n : Int) + (m : Int) = ((n + m : Nat) : Int) from rfl]
  refine (join_any a 0#64 (n + m) _ (by omega)).mono ?_
  rintro e w4 ⟨rfl, hb⟩
  have HB4 := Lib.hid (HB3.out.trans (hb.mono HB3.out.size))
  clear hb HB3
  rw [show joinRest a M0 (n + m) ^^^ 0#64 = y by rw [join_plain, HY.out]; simp]
  go_wp2_with fail
  rw [show (n : Int) + (m : Int) = ((n + m : Nat) : Int) from rfl]
  refine (join_any a y (n + m) _ (by omega)).mono ?_
  rintro e w5 ⟨rfl, hb⟩
  have HB5 := Lib.hid (HB4.out.trans (hb.mono HB4.out.size))
  clear hb HB4
  rw [show joinRest a M0 (n + m) ^^^ y = y ^^^ y by rw [join_plain, ← HY.out]]
  go_wp2_with (go_at_call 13; refine (num_any _ _).mono ?_; rintro e w' ⟨rfl, rfl⟩)
  go_ret
  exact ⟨rfl, HB5.out⟩
theorem own : ownKnob Try.prog.godebug = none := by kernel_rfl
theorem laidOut : laidOutB Try.prog = true := by kernel_rfl
set_option maxRecDepth 100000 in
theorem lifted (os : Os) (started : os.Started) (H : Type) (enc : TypeId × Value → H) :
    ReturnsInHanded {} Try.checked os 3 .any (Rows.sumLongSpec.pre6 enc Try.prog Try.f3 Rows.sumLongRow.domain false) (Rows.sumLongSpec.post enc Try.prog Try.f3 false true false false) := by
  refine returnsInHanded_of_change_sized (C := Try.checked) own started (by kernel_rfl) Try.func3
    (ChangeSpec.witness6 (enc := enc) (C := Try.checked) false ⟨#[], #[.int .u64 0, .int .i64 0, .int .i64 0], []⟩ 8 (by kernel_rfl) (by kernel_rfl) (by kernel_rfl) (by kernel_rfl)) ?_
  intro W base args ds gs before hval0 hW hcnd hsz0 _
  have hsz : (DataW.weightsEach Try.prog (Try.f3.params.toList ++ Rows.sumLongSpec.plain.varTypes Try.prog) (ds ++ gs)).all (· ≤ reachBytes) = true := hsz0
  clear hsz0
  have hval : ∀ (j : Nat) t v, Try.f3.params[j]? = some t → args[j]? = some v → Value.okWide Try.prog W .any base t v := hval0
  have hW' := hW
  obtain ⟨p, q, hA0, hV, rfl, hfz, hnd⟩ := hW
  have hA : DataW.TrodAll enc Try.prog W 0 (fun _ => true) true Try.f3.params.toList args.toList ds p := hA0
  rw [Try.params3] at hA hval hsz
  obtain ⟨v0, vs0, d0, ds0, p0, q0, hargs, rfl, rfl, h0, r0⟩ := trodAll_cons hA
  obtain ⟨v1, vs1, d1, ds1, p1, q1, rfl, rfl, rfl, h1, r1⟩ := trodAll_cons r0
  obtain ⟨v2, vs2, d2, ds2, p2, q2, rfl, rfl, rfl, h2, r2⟩ := trodAll_cons r1
  obtain ⟨rfl, rfl, rfl⟩ := trodAll_nil r2
  obtain rfl : args = #[v0, v1, v2] := by cases args; simp_all
  obtain ⟨rfl, rfl⟩ := trodVars_none hV
  obtain ⟨a0, rfl, rfl, rfl, w0⟩ := open_int Try.underlying22 (hval 0 22 v0 rfl rfl) h0
  obtain ⟨x0, rfl⟩ := u64_of_wf w0
  obtain ⟨a1, rfl, rfl, rfl, w1⟩ := open_int Try.underlying3 (hval 1 3 v1 rfl rfl) h1
  have b1 := i64_of_wf w1
  obtain ⟨a2, rfl, rfl, rfl, w2⟩ := open_int Try.underlying3 (hval 2 3 v2 rfl rfl) h2
  have b2 := i64_of_wf w2
  clear hA0 hval0
  refine (walk x0 a1 a2 W b1 b2).mono fun e W' ⟨he, bel⟩ => ?_
  subst he
  exact ⟨_, rfl, _, _, _, [], _, [], hW', trodAll_mk1 (shut_bool Try.underlying4 _), (trodAll_cons_mk (shut_int Try.underlying22 w0) (trodAll_cons_mk (shut_int Try.underlying3 w1) (trodAll_cons_mk (shut_int Try.underlying3 w2) trodAll_mk0))), rfl, bel.frame _, fun h => by cases h⟩
theorem over : Rows.sumLongRow.holds Try.pinned (OpenSpec.ofChange Rows.sumLongSpec) :=
  OpenClaim.holds_of_wide 3 Try.f3 rfl rfl rfl rfl rfl rfl rfl ⟨rfl, rfl, rfl, rfl, rfl⟩ rfl rfl rfl rfl rfl (by kernel_rfl) Try.func3 (by kernel_rfl)
    (of_decide_eq_true (by kernel_rfl)) (by unfold Func.isWrapper; first | (rw [if_pos (by decide +kernel)]; kernel_rfl) | (rw [if_neg (by decide +kernel)]; exact ⟨rfl, rfl⟩))
    (fun os started H enc _ => lifted os started H enc)
theorem proved : Rows.SumLongSaid := over
#print axioms proved
end Go.Proofs.Ytdphcmmpkacmfaa.lawSumLong
