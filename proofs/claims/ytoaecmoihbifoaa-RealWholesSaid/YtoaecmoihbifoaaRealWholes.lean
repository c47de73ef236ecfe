/-
  Proved: RealWholes answers true for every input: rounding to whole numbers each way, whole numbers out of reals, and reals out of whole numbers. No condition.
-/
import Derived.Test.YtoaecmoihbifoaaOj
import Derived.Test.YtoaecmoihbifoaaGen
namespace Go.Proofs.Ytoaecmoihbifoaa.lawRealWholes
open Go.ChangeShapes Go.WideShapes Go.ChangeAt Go.RowKit Go.K Go.R
set_option linter.unusedVariables false
set_option linter.unusedSimpArgs false

theorem u32_of_wf {n : Int} (h : (Lit.int .u32 n).wf = true) : ∃ x : Nat, x < 4294967296 ∧ n = (x : Int) := by
  have : 0 ≤ n ∧ n ≤ 4294967295 := by simpa [Lit.wf, IntKind.min, IntKind.max, IntKind.signed, IntKind.bits] using h
  exact ⟨n.toNat, by omega, by omega⟩
set_option maxRecDepth 100000 in
set_option maxHeartbeats 4000000 in
theorem walkN (x : Nat) (way n : Int) (u : Nat) (w : World) (hx : x < 4294967296) (hn1 : -9223372036854775808 ≤ n) (hn2 : n ≤ 9223372036854775807) (hu : u < 18446744073709551616) :
    Calls Try.prog 5 #[.int .u32 (x : Int), .int .i64 way, .int .i64 n, .int .u64 (u : Int)] w fun e w' => e = .returned (.bool true) ∧ Below w.heap.size w w' := by
  have HPR := Lib.hid (fun (i : Int) W => prnd_any x i hx W)
  have HRR := Lib.hid (fun (i : Int) W => rround_any x i hx W)
  have HI := Lib.hid (fun W => pint_any x hx W)
  have KI := Lib.hid (fun W => rint_any x hx W)
  have HU := Lib.hid (fun W => puint_any x hx W)
  have KU := Lib.hid (fun W => ruint_any x hx W)
  have HFI := Lib.hid (fun W => pfi_any n W)
  have KFI := Lib.hid (fun W => rfi_any n hn1 hn2 W)
  have HFU := Lib.hid (fun W => pfu_any u W)
  have KFU := Lib.hid (fun W => rfu_any u hu W)
  clear hx hn1 hn2 hu
  generalize (if okI x then ivV x else 0) = I at *
  generalize (if okI x then (0 : Int) else 2) = E at *
  generalize (if okU x then ((wN (pm (rg x)) (pe (rg x)) : Nat) : Int) else 0) = U at *
  generalize (if okU x then (0 : Int) else 2) = F at *
  generalize fiV n = A at *
  generalize Ieee.single.nearest false u 0 = B at *
  have e1 : (I != I) = false := by simp
  have e2 : (E != E) = false := by simp
  have e3 : (U != U) = false := by simp
  have e4 : (F != F) = false := by simp
  have e5 : ((A : Int) == (A : Int)) = true := by simp
  have e6 : ((B : Int) == (B : Int)) = true := by simp
  go_enter Try.func5, Try.ntmps5
  go_wp2
  go_loopw [9] (fun ii wr => ∃ i : Nat, i ≤ 6 ∧ ii = .int .i64 i ∧ Below w.heap.size w wr) (fun ii _ => 6 - (intOf ii).toNat)
  case atStart => exact ⟨0, by omega, rfl, Below.refl _ _⟩
  case round =>
    obtain ⟨i, hi, rfl, hb⟩ := hrel
    by_cases hlt : i < 6
    · have t0 : decide ((i : Int) < 6) = true := decide_eq_true (by omega)
      have t0n : decide (i < 6) = true := decide_eq_true hlt
      have HP := Lib.hid (HPR.out (i : Int))
      have HR := Lib.hid (HRR.out (i : Int))
      generalize rndW x (i : Int) = R at *
      have e7 : ((R : Int) != (R : Int)) = false := by simp
      go_wp2_with (first
        | (go_at_call 9; refine (f_any _ _).mono ?_; rintro e w1 ⟨rfl, rfl⟩)
        | (go_at_call 11; refine (b_any _ _).mono ?_; rintro e w1 ⟨rfl, rfl⟩)
        | (go_at_call 25; (with_reducible refine (HP.out _).mono ?_); rintro e w1 ⟨rfl, hl⟩; have hb := hb.trans (hl.mono hb.size))
        | (go_at_call 26; (with_reducible refine (HR.out _).mono ?_); rintro e w1 ⟨rfl, hl⟩; have hb := hb.trans (hl.mono hb.size)))
      go_roundw
      case rel => exact ⟨i + 1, by omega, by go_num, hb⟩
      case measure => simp [intOf]; omega
    · have t0 : decide ((i : Int) < 6) = false := decide_eq_false (by omega)
      have t0n : decide (i < 6) = false := decide_eq_false hlt
      have HP := Lib.hid (HPR.out way)
      have HR := Lib.hid (HRR.out way)
      generalize rndW x way = R at *
      have e7 : ((R : Int) != (R : Int)) = false := by simp
      go_wp2_with (first
        | (go_at_call 9; refine (f_any _ _).mono ?_; rintro e w1 ⟨rfl, rfl⟩)
        | (go_at_call 11; refine (b_any _ _).mono ?_; rintro e w1 ⟨rfl, rfl⟩)
        | (go_at_call 31; refine (num_any _ _).mono ?_; rintro e w1 ⟨rfl, rfl⟩)
        | (go_at_call 27; (with_reducible refine (HI.out _).mono ?_); rintro e w1 ⟨rfl, rfl⟩)
        | (go_at_call 28; (with_reducible refine (KI.out _).mono ?_); rintro e w1 ⟨rfl, rfl⟩)
        | (go_at_call 29; (with_reducible refine (HU.out _).mono ?_); rintro e w1 ⟨rfl, rfl⟩)
        | (go_at_call 30; (with_reducible refine (KU.out _).mono ?_); rintro e w1 ⟨rfl, rfl⟩)
        | (go_at_call 32; (with_reducible refine (HFI.out _).mono ?_); rintro e w1 ⟨rfl, rfl⟩)
        | (go_at_call 34; (with_reducible refine (HFU.out _).mono ?_); rintro e w1 ⟨rfl, rfl⟩)
        | (go_at_call 33; (with_reducible refine (KFI.out _).mono ?_); rintro e w1 ⟨rfl, hl⟩; have hb := hb.trans (hl.mono hb.size))
        | (go_at_call 35; (with_reducible refine (KFU.out _).mono ?_); rintro e w1 ⟨rfl, hl⟩; have hb := hb.trans (hl.mono hb.size))
        | (go_at_call 25; (with_reducible refine (HP.out _).mono ?_); rintro e w1 ⟨rfl, hl⟩; have hb := hb.trans (hl.mono hb.size))
        | (go_at_call 26; (with_reducible refine (HR.out _).mono ?_); rintro e w1 ⟨rfl, hl⟩; have hb := hb.trans (hl.mono hb.size)))
      go_ret
      exact ⟨rfl, hb⟩
theorem walk (x : Nat) (way n : Int) (u : BitVec 64) (w : World) (hx : x < 4294967296) (hw : -9223372036854775808 ≤ way ∧ way ≤ 9223372036854775807) (hn : -9223372036854775808 ≤ n ∧ n ≤ 9223372036854775807) :
    Calls Try.prog 5 #[.int .u32 x, .int .i64 way, .int .i64 n, .int .u64 (U64 u)] w fun e w' => e = .returned (.bool true) ∧ Below w.heap.size w w' :=
  walkN x way n u.toNat w hx hn.1 hn.2 u.isLt
theorem own : ownKnob Try.prog.godebug = none := by kernel_rfl
theorem laidOut : laidOutB Try.prog = true := by kernel_rfl
set_option maxRecDepth 100000 in
theorem lifted (os : Os) (started : os.Started) (H : Type) (enc : TypeId × Value → H) :
    ReturnsInHanded {} Try.checked os 5 .any (Rows.realWholesSpec.pre6 enc Try.prog Try.f5 Rows.realWholesRow.domain false) (Rows.realWholesSpec.post enc Try.prog Try.f5 false true false false) := by
  refine returnsInHanded_of_change_sized (C := Try.checked) own started (by kernel_rfl) Try.func5
    (ChangeSpec.witness6 (enc := enc) (C := Try.checked) false ⟨#[], #[.int .u32 0, .int .i64 0, .int .i64 0, .int .u64 0], []⟩ 8 (by kernel_rfl) (by kernel_rfl) (by kernel_rfl) (by kernel_rfl)) ?_
  intro W base args ds gs before hval0 hW hcnd hsz0 _
  have hsz : (DataW.weightsEach Try.prog (Try.f5.params.toList ++ Rows.realWholesSpec.plain.varTypes Try.prog) (ds ++ gs)).all (· ≤ reachBytes) = true := hsz0
  clear hsz0
  have hval : ∀ (j : Nat) t v, Try.f5.params[j]? = some t → args[j]? = some v → Value.okWide Try.prog W .any base t v := hval0
  have hW' := hW
  obtain ⟨p, q, hA0, hV, rfl, hfz, hnd⟩ := hW
  have hA : DataW.TrodAll enc Try.prog W 0 (fun _ => true) true Try.f5.params.toList args.toList ds p := hA0
  rw [Try.params5] at hA hval hsz
  obtain ⟨v0, vs0, d0, ds0, p0, q0, hargs, rfl, rfl, h0, r0⟩ := trodAll_cons hA
  obtain ⟨v1, vs1, d1, ds1, p1, q1, rfl, rfl, rfl, h1, r1⟩ := trodAll_cons r0
  obtain ⟨v2, vs2, d2, ds2, p2, q2, rfl, rfl, rfl, h2, r2⟩ := trodAll_cons r1
  obtain ⟨v3, vs3, d3, ds3, p3, q3, rfl, rfl, rfl, h3, r3⟩ := trodAll_cons r2
  obtain ⟨rfl, rfl, rfl⟩ := trodAll_nil r3
  obtain rfl : args = #[v0, v1, v2, v3] := by cases args; simp_all
  obtain ⟨rfl, rfl⟩ := trodVars_none hV
  obtain ⟨a0, rfl, rfl, rfl, w0⟩ := open_int Try.underlying22 (hval 0 22 v0 rfl rfl) h0
  obtain ⟨x0, y0, rfl⟩ := u32_of_wf w0
  obtain ⟨a1, rfl, rfl, rfl, w1⟩ := open_int Try.underlying3 (hval 1 3 v1 rfl rfl) h1
  have b1 := i64_of_wf w1
  obtain ⟨a2, rfl, rfl, rfl, w2⟩ := open_int Try.underlying3 (hval 2 3 v2 rfl rfl) h2
  have b2 := i64_of_wf w2
  obtain ⟨a3, rfl, rfl, rfl, w3⟩ := open_int Try.underlying34 (hval 3 34 v3 rfl rfl) h3
  obtain ⟨x3, rfl⟩ := u64_of_wf w3
  clear hA0 hval0
  refine (walk x0 a1 a2 x3 W y0 b1 b2).mono fun e W' ⟨he, bel⟩ => ?_
  subst he
  exact ⟨_, rfl, _, _, _, [], _, [], hW', trodAll_mk1 (shut_bool Try.underlying4 _), (trodAll_cons_mk (shut_int Try.underlying22 w0) (trodAll_cons_mk (shut_int Try.underlying3 w1) (trodAll_cons_mk (shut_int Try.underlying3 w2) (trodAll_cons_mk (shut_int Try.underlying34 w3) trodAll_mk0)))), rfl, bel.frame _, fun h => by cases h⟩
theorem over : Rows.realWholesRow.holds Try.pinned (OpenSpec.ofChange Rows.realWholesSpec) :=
  OpenClaim.holds_of_wide 5 Try.f5 rfl rfl rfl rfl rfl rfl rfl ⟨rfl, rfl, rfl, rfl, rfl⟩ rfl rfl rfl rfl rfl (by kernel_rfl) Try.func5 (by kernel_rfl)
    (of_decide_eq_true (by kernel_rfl)) (by unfold Func.isWrapper; first | (rw [if_pos (by decide +kernel)]; kernel_rfl) | (rw [if_neg (by decide +kernel)]; exact ⟨rfl, rfl⟩))
    (fun os started H enc _ => lifted os started H enc)
theorem proved : Rows.RealWholesSaid := over
#print axioms proved
end Go.Proofs.Ytoaecmoihbifoaa.lawRealWholes
