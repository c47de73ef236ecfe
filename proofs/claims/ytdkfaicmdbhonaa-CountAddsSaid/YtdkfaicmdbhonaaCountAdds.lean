/-
  Proved: CountAdds answers true for every two numbers: Add, Take and Times are the document's. No condition.
-/
import Derived.Test.YtdkfaicmdbhonaaWn
import Derived.Test.YtdkfaicmdbhonaaOpen
namespace Go.Proofs.Ytdkfaicmdbhonaa.lawCountAdds
open Go.ChangeShapes Go.WideShapes Go.ChangeAt Go.RowKit Go.K
set_option linter.unusedVariables false
set_option linter.unusedSimpArgs false

theorem pair_of (z : Int) : ∃ a b : Int, fitV z = .tuple #[.int .u64 a, .int .i64 b] := by
  by_cases h : fits z
  · exact ⟨_, _, fitV_yes h⟩
  · exact ⟨_, _, fitV_no h⟩
theorem pair_take (x y : BitVec 64) : ∃ a b : Int, takeV x y = .tuple #[.int .u64 a, .int .i64 b] := by
  by_cases h : x.toNat < y.toNat
  · exact ⟨_, _, takeV_lt h⟩
  · exact ⟨_, _, takeV_ge h⟩
set_option maxRecDepth 100000 in
set_option maxHeartbeats 1000000 in
theorem walk (x y : BitVec 64) (w : World) : Calls Try.prog 4 #[.int .u64 (U64 x), .int .u64 (U64 y)] w fun e w' => e = .returned (.bool true) ∧ Below w.heap.size w w' := by
  have A1 := fun W => cadd_any x y W
  have A2 := fun W => radd_any x y W
  have T1 := fun W => ctake_any x y W
  have T2 := fun W => rtake_any x y W
  have M1 := fun W => ctimes_any x y W
  have M2 := fun W => rtimes_any x y W
  obtain ⟨a, b, h1⟩ := pair_of ((x.toNat + y.toNat : Nat) : Int)
  obtain ⟨c, d, h2⟩ := pair_take x y
  obtain ⟨f, g, h3⟩ := pair_of ((x.toNat * y.toNat : Nat) : Int)
  rw [h1] at A1 A2
  rw [h2] at T1 T2
  rw [h3] at M1 M2
  have A1' := Lib.hid A1
  have A2' := Lib.hid A2
  have T1' := Lib.hid T1
  have T2' := Lib.hid T2
  have M1' := Lib.hid M1
  have M2' := Lib.hid M2
  have ea : (a == a) = true := by simp
  have eb : (b == b) = true := by simp
  have ec : (c == c) = true := by simp
  have ed : (d == d) = true := by simp
  have ef : (f == f) = true := by simp
  have eg : (g == g) = true := by simp
  clear h1 h2 h3 A1 A2 T1 T2 M1 M2
  go_enter Try.func4, Try.ntmps4
  go_wp2_with fail
  refine (A1'.out _).mono ?_
  rintro e w1 ⟨rfl, rfl⟩
  go_wp2_with fail
  refine (A2'.out _).mono ?_
  rintro e w1 ⟨rfl, hb1⟩
  go_wp2_with fail
  refine (T1'.out _).mono ?_
  rintro e w2 ⟨rfl, rfl⟩
  go_wp2_with fail
  refine (T2'.out _).mono ?_
  rintro e w2 ⟨rfl, hb2⟩
  have hb12 := hb1.trans (hb2.mono hb1.size)
  go_wp2_with fail
  refine (M1'.out _).mono ?_
  rintro e w3 ⟨rfl, rfl⟩
  go_wp2_with fail
  refine (M2'.out _).mono ?_
  rintro e w3 ⟨rfl, hb3⟩
  have hb := hb12.trans (hb3.mono hb12.size)
  clear hb1 hb2 hb3 hb12
  go_wp2
  go_ret
  exact ⟨rfl, hb⟩
theorem own : ownKnob Try.prog.godebug = none := by kernel_rfl
theorem laidOut : laidOutB Try.prog = true := by kernel_rfl
set_option maxRecDepth 100000 in
theorem lifted (os : Os) (started : os.Started) (H : Type) (enc : TypeId × Value → H) :
    ReturnsInHanded {} Try.checked os 4 .any (Rows.countAddsSpec.pre6 enc Try.prog Try.f4 Rows.countAddsRow.domain false) (Rows.countAddsSpec.post enc Try.prog Try.f4 false true false false) := by
  refine returnsInHanded_of_change_sized (C := Try.checked) own started (by kernel_rfl) Try.func4
    (ChangeSpec.witness6 (enc := enc) (C := Try.checked) false ⟨#[], #[.int .u64 0, .int .u64 0], []⟩ 8 (by kernel_rfl) (by kernel_rfl) (by kernel_rfl) (by kernel_rfl)) ?_
  intro W base args ds gs before hval0 hW hcnd hsz0 _
  have hsz : (DataW.weightsEach Try.prog (Try.f4.params.toList ++ Rows.countAddsSpec.plain.varTypes Try.prog) (ds ++ gs)).all (· ≤ reachBytes) = true := hsz0
  clear hsz0
  have hval : ∀ (j : Nat) t v, Try.f4.params[j]? = some t → args[j]? = some v → Value.okWide Try.prog W .any base t v := hval0
  have hW' := hW
  obtain ⟨p, q, hA0, hV, rfl, hfz, hnd⟩ := hW
  have hA : DataW.TrodAll enc Try.prog W 0 (fun _ => true) true Try.f4.params.toList args.toList ds p := hA0
  rw [Try.params4] at hA hval hsz
  obtain ⟨v0, vs0, d0, ds0, p0, q0, hargs, rfl, rfl, h0, r0⟩ := trodAll_cons hA
  obtain ⟨v1, vs1, d1, ds1, p1, q1, rfl, rfl, rfl, h1, r1⟩ := trodAll_cons r0
  obtain ⟨rfl, rfl, rfl⟩ := trodAll_nil r1
  obtain rfl : args = #[v0, v1] := by cases args; simp_all
  obtain ⟨rfl, rfl⟩ := trodVars_none hV
  obtain ⟨a0, rfl, rfl, rfl, w0⟩ := open_int Try.underlying24 (hval 0 24 v0 rfl rfl) h0
  obtain ⟨x0, rfl⟩ := u64_of_wf w0
  obtain ⟨a1, rfl, rfl, rfl, w1⟩ := open_int Try.underlying24 (hval 1 24 v1 rfl rfl) h1
  obtain ⟨x1, rfl⟩ := u64_of_wf w1
  clear hA0 hval0
  refine (walk x0 x1 W).mono fun e W' ⟨he, bel⟩ => ?_
  subst he
  exact ⟨_, rfl, _, _, _, [], _, [], hW', trodAll_mk1 (shut_bool Try.underlying4 _), (trodAll_cons_mk (shut_int Try.underlying24 w0) (trodAll_cons_mk (shut_int Try.underlying24 w1) trodAll_mk0)), rfl, bel.frame _, fun h => by cases h⟩
theorem over : Rows.countAddsRow.holds Try.pinned (OpenSpec.ofChange Rows.countAddsSpec) :=
  OpenClaim.holds_of_wide 4 Try.f4 rfl rfl rfl rfl rfl rfl rfl ⟨rfl, rfl, rfl, rfl, rfl⟩ rfl rfl rfl rfl rfl (by kernel_rfl) Try.func4 (by kernel_rfl)
    (of_decide_eq_true (by kernel_rfl)) (by unfold Func.isWrapper; first | (rw [if_pos (by decide +kernel)]; kernel_rfl) | (rw [if_neg (by decide +kernel)]; exact ⟨rfl, rfl⟩))
    (fun os started H enc _ => lifted os started H enc)
theorem proved : Rows.CountAddsSaid := over
#print axioms proved
end Go.Proofs.Ytdkfaicmdbhonaa.lawCountAdds
