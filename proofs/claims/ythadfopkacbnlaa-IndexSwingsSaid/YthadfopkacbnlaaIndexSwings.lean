/-
  Swings come again behind eight; those of k and of 8 less k; that of 0 is the day's sum.
-/
import Derived.Test.YthadfopkacbnlaaUb
import Derived.Test.YthadfopkacbnlaaPc
import Derived.Test.YthadfopkacbnlaaYa
namespace Go.Proofs.Ythadfopkacbnlaa.lawIndexSwings
open Go.RowKit Go.K Go.ChangeShapes Go.WideShapes Go.ChangeAt Stab
set_option linter.unusedVariables false
set_option linter.unusedSimpArgs false
attribute [local go_sem] run_store_float
theorem and7i (x : Int) : bits .and .i64 x 7 = ((x % 8).toNat : Int) := by
  show IntKind.i64.wrap ((BitVec.ofInt 64 x &&& BitVec.ofInt 64 7).toNat : Int) = _
  rw [BitVec.toNat_and, show (BitVec.ofInt 64 7).toNat = 2 ^ 3 - 1 from rfl, Nat.and_two_pow_sub_one_eq_mod, BitVec.toNat_ofInt, IntKind.wrap_i64]
  omega
theorem beq_of {o : Option Ordering} (h : o = some .eq) : (o == some Ordering.eq) = true := by rw [h]; rfl
set_option maxRecDepth 100000 in
set_option maxHeartbeats 8000000 in
theorem walk (a : Option Addr) (c : Nat) (l : List Dl) (kd kx : Int) (w : World) (hd : DlsOk w a c l) (hr1 : -9223372036854775808 ≤ kd ∧ kd ≤ 9223372036854775807) (hr2 : -9223372036854775808 ≤ kx ∧ kx ≤ 9223372036854775807) :
    Calls Try.prog 7 #[.slice a l.length c, .int .i64 kd, .int .i64 kx] w fun e w' => e = .returned (.bool true) ∧ Below w.heap.size w w' := by
  have HD := Lib.hid hd
  clear hr1 hr2 hd
  go_enter Try.func7, Try.ntmps7
  go_wp2_with fail
  refine (known_any w).mono ?_
  rintro r0 w1 ⟨rfl, hb1⟩
  have HB1 := Lib.hid hb1
  clear hb1
  go_wp2_with fail
  refine (hear_any a c l w1 (by have := HD.out.mx; omega) HD.out.pr (HD.out.kept (HB1.out)).sl).mono ?_
  rintro r0 w2 ⟨rfl, hi2, hb2⟩
  obtain ⟨g, hg⟩ : ∃ g, g = w1.heap.size := ⟨_, rfl⟩
  obtain ⟨L, hL⟩ : ∃ L, L = hearL l := ⟨_, rfl⟩
  rw [← hg, ← hL] at hi2
  rw [← hg]
  have HGD := Lib.hid (show ∀ k, Good (L k) l.length from by rw [hL]; exact hearL_good l HD.out.pr)
  have HI2 := Lib.hid hi2
  have HB2 := Lib.hid (HB1.out.trans (hb2.mono HB1.out.size))
  clear hi2 hb2 hg hL
  go_wp2_with fail
  obtain ⟨k, hk⟩ : ∃ k : Nat, plc kd 16 = (k : Int) := ⟨(plc kd 16).toNat, by have := plc_lo (x := kd) (n := 16) (by decide); omega⟩
  have HK := Lib.hid (show k < 16 from by have := plc_lo (x := kd) (n := 16) (by decide); omega)
  refine (place_any kd 16 _ (by decide) (by decide)).mono ?_
  rintro r0 w3 ⟨rfl, rfl⟩
  rw [hk]
  clear hk
  go_wp2_with fail
  obtain ⟨x, hx⟩ : ∃ x, x = plc kx 1099511627776 := ⟨_, rfl⟩
  have hxr := plc_lo (x := kx) (n := 1099511627776) (by decide)
  refine (place_any kx 1099511627776 _ (by decide) (by decide)).mono ?_
  rintro r0 w3 ⟨rfl, rfl⟩
  rw [← hx] at hxr ⊢
  clear hx
  obtain ⟨x8, hx8⟩ : ∃ x8, x8 = x + 8 := ⟨_, rfl⟩
  obtain ⟨xm, hxm⟩ : ∃ xm, xm = 8 - x := ⟨_, rfl⟩
  have e8 : IntKind.i64.wrap (x + 8) = x8 := by rw [IntKind.wrap_i64]; omega
  have em : IntKind.i64.wrap (8 - x) = xm := by rw [IntKind.wrap_i64]; omega
  obtain ⟨q, hq⟩ : ∃ q, q = (x % 8).toNat := ⟨_, rfl⟩
  obtain ⟨q', hq'⟩ : ∃ q', q' = (xm % 8).toNat := ⟨_, rfl⟩
  have HQ := Lib.hid (show q < 8 ∧ q' < 8 ∧ (q + q') % 8 = 0 from by omega)
  have HX := Lib.hid (show bits .and .i64 x 7 = (q : Int) ∧ bits .and .i64 x8 7 = (q : Int) ∧ bits .and .i64 xm 7 = (q' : Int) from ⟨by rw [and7i, hq], by rw [and7i, hq]; omega, by rw [and7i, hq']⟩)
  clear hx8 hxm hq hq' hxr
  have hday := fun h => (HGD.out k).day h
  obtain ⟨R, I, I', s1, s2, s3, s4, s5, s6, s7⟩ := fl.swings hday HQ.out.2.2
  obtain ⟨R0, I0, J0, o1, o2, o3, o4, o5, o6, o7⟩ := fl.swings hday (q := 0) (q' := 0) (by decide)
  obtain ⟨R4, I4, J4, p1, p2, p3, p4, p5, p6, p7⟩ := fl.swings hday (q := 4) (q' := 4) (by decide)
  have z0 := fl.im_zero hday (.inl rfl) o3
  have z4 := fl.im_zero hday (.inr rfl) p3
  have zs := fl.re_zero hday o1
  obtain ⟨S, hS⟩ : ∃ S, S = fl.sumD (L k).day 8 := ⟨_, rfl⟩
  rw [← hS] at zs
  obtain ⟨NI, hNI⟩ : ∃ NI, NI = Op.negFloat .f32 I' := ⟨_, rfl⟩
  rw [← hNI] at s7
  have HN := Lib.hid (show ∀ W, (Op.unary UnOp.neg (.float .f32 I')).run Try.prog W = .ok (.float .f32 NI) W from by rw [hNI]; exact neg_any I')
  have HSW := Lib.hid (And.intro s1 (And.intro s2 (And.intro s3 (And.intro s4 (And.intro o1 (And.intro o3 (And.intro p1 p3)))))))
  have HO := Lib.hid (And.intro (beq_of s5) (And.intro (beq_of s6) (And.intro (beq_of s7) (And.intro (beq_of z0) (And.intro (beq_of z4) (beq_of zs))))))
  have HSS := Lib.hid hS
  clear s1 s2 s3 s4 s5 s6 s7 o1 o2 o3 o4 o5 o6 o7 p1 p2 p3 p4 p5 p6 p7 z0 z4 zs hS hNI hday
  go_wp2_with fail
  refine (swing_any g k q x L w2 HK.out HQ.out.1 HX.out.1 R I HSW.out.1 HSW.out.2.2.1 HI2.out).mono ?_
  rintro r0 w3 ⟨rfl, hb3⟩
  have HI3 := Lib.hid (HI2.out.kept hb3)
  have HB3 := Lib.hid (HB2.out.trans (hb3.mono HB2.out.size))
  clear hb3
  go_wp2_with fail
  refine (swing_any g k q x8 L w3 HK.out HQ.out.1 HX.out.2.1 R I HSW.out.1 HSW.out.2.2.1 HI3.out).mono ?_
  rintro r0 w4 ⟨rfl, hb4⟩
  have HI4 := Lib.hid (HI3.out.kept hb4)
  have HB4 := Lib.hid (HB3.out.trans (hb4.mono HB3.out.size))
  clear hb4
  go_wp2_with fail
  refine (swing_any g k q' xm L w4 HK.out HQ.out.2.1 HX.out.2.2 R I' HSW.out.2.1 HSW.out.2.2.2.1 HI4.out).mono ?_
  rintro r0 w5 ⟨rfl, hb5⟩
  have HI5 := Lib.hid (HI4.out.kept hb5)
  have HB5 := Lib.hid (HB4.out.trans (hb5.mono HB4.out.size))
  clear hb5
  go_wp2_with fail
  refine (swing_any g k 0 0 L w5 HK.out (by decide) (by decide +kernel) R0 I0 HSW.out.2.2.2.2.1 HSW.out.2.2.2.2.2.1 HI5.out).mono ?_
  rintro r0 w6 ⟨rfl, hb6⟩
  have HI6 := Lib.hid (HI5.out.kept hb6)
  have HB6 := Lib.hid (HB5.out.trans (hb6.mono HB5.out.size))
  clear hb6
  go_wp2_with fail
  refine (swing_any g k 4 4 L w6 HK.out (by decide) (by decide +kernel) R4 I4 HSW.out.2.2.2.2.2.2.1 HSW.out.2.2.2.2.2.2.2 HI6.out).mono ?_
  rintro r0 w7 ⟨rfl, hb7⟩
  have HI7 := Lib.hid (HI6.out.kept hb7)
  have HB7 := Lib.hid (HB6.out.trans (hb7.mono HB6.out.size))
  clear hb7
  go_wp2_with fail
  refine (num_any 0 _).mono ?_
  rintro r0 w8 ⟨rfl, rfl⟩
  go_wp2_with fail
  refine (num_any 0 _).mono ?_
  rintro r0 w8 ⟨rfl, rfl⟩
  go_wp2_with fail
  refine (num_any 0 _).mono ?_
  rintro r0 w8 ⟨rfl, rfl⟩
  go_wp2_with fail
  refine (num_any 0 _).mono ?_
  rintro r0 w8 ⟨rfl, rfl⟩
  go_wp2_with fail
  refine (num_any 0 _).mono ?_
  rintro r0 w8 ⟨rfl, rfl⟩
  go_wp2_with fail
  refine (day_any g k L w7 HK.out HI7.out).mono ?_
  rintro r0 w8 ⟨rfl, hb8⟩
  have HB8 := Lib.hid (HB7.out.trans (hb8.mono HB7.out.size))
  clear hb8
  unfold Ln.dayV
  go_upto_region 16 with fail
  obtain ⟨m, hm⟩ : ∃ m, m = w8.heap.size := ⟨_, rfl⟩
  rw [← hm]
  refine wp_world (fun W => (∀ t, t < 8 → W.cell? ⟨m, t, none⟩ = some (.float .f32 ((L k).day t))) ∧ Below w.heap.size w W) ⟨fun t ht => ?_, HB8.out.alloc HB8.out.size _⟩ ?_
  · rw [cell_of_row _ _ _ _ _ _ (alloc_at hm)]
    have h8 : t = 0 ∨ t = 1 ∨ t = 2 ∨ t = 3 ∨ t = 4 ∨ t = 5 ∨ t = 6 ∨ t = 7 := by omega
    rcases h8 with rfl | rfl | rfl | rfl | rfl | rfl | rfl | rfl <;> rfl
  rintro w9 ⟨hc9, hb9⟩
  have HC9 := Lib.hid hc9
  have HB9 := Lib.hid hb9
  clear hc9 hb9 hm
  go_wp2
  go_loopw [20, 21] (fun s i V => ∃ t : Nat, t ≤ 8 ∧ i = .int .i64 t ∧ s = .float .f32 (fl.sumD (L k).day t) ∧ Qt w9 V) (fun _ i _ => 8 - (intOf i).toNat)
  case atStart => exact ⟨0, Nat.zero_le _, rfl, rfl, Qt.refl _⟩
  case round =>
    obtain ⟨t, ht, rfl, rfl, hq⟩ := hrel
    have HQT := Lib.hid hq
    clear hq
    by_cases hlt : t < 8
    · have t0 : decide ((t : Int) < 8) = true := by simp; omega
      have it : (t : Int) < 8 := by omega
      have c0 : wr.cell? ⟨m, t, none⟩ = some (.float .f32 ((L k).day t)) := by rw [HQT.out.cell]; exact HC9.out t hlt
      obtain ⟨d, hd⟩ : ∃ d, d = (L k).day t := ⟨_, rfl⟩
      obtain ⟨s, hs⟩ : ∃ s, s = fl.sumD (L k).day t := ⟨_, rfl⟩
      rw [← hd] at c0
      rw [← hs]
      have HSD := Lib.hid (show n03.opW (Ieee.single.add s d) = fl.sumD (L k).day (t + 1) from by rw [hd, hs]; rfl)
      have HLT := Lib.hid hlt
      clear hd hs hlt ht
      go_wp2_with fail
      refine (n03.padd_any s d _).mono ?_
      rintro r0 w10 ⟨rfl, hq10⟩
      rw [HSD.out]
      have HQ10 := Lib.hid (HQT.out.trans hq10)
      clear hq10
      have ti : IntKind.i64.wrap ((t : Int) + 1) = ((t + 1 : Nat) : Int) := by rw [IntKind.wrap_i64]; omega
      go_wp2
      go_roundw
      case rel => exact ⟨t + 1, HLT.out, by go_num, rfl, HQ10.out⟩
      case measure => have := HLT.out; simp [intOf]; omega
    · have t0 : decide ((t : Int) < 8) = false := by simp; omega
      obtain rfl : t = 8 := by omega
      rw [← HSS.out]
      obtain ⟨e1, e2, e3, e4, e5, e6⟩ := HO.out
      have hn := HN.out
      go_wp2_with fail
      go_ret
      exact ⟨rfl, HB9.out.trans (HQT.out.below _)⟩
theorem own : ownKnob Try.prog.godebug = none := by kernel_rfl
theorem laidOut : laidOutB Try.prog = true := by kernel_rfl
set_option maxRecDepth 100000 in
theorem lifted (os : Os) (started : os.Started) (H : Type) (enc : TypeId × Value → H) :
    ReturnsInHanded {} Try.checked os 7 .any (Rows.indexSwingsSpec.pre6 enc Try.prog Try.f7 Rows.indexSwingsRow.domain false) (Rows.indexSwingsSpec.post enc Try.prog Try.f7 false true false false) := by
  refine returnsInHanded_of_change_sized (C := Try.checked) own started (by kernel_rfl) Try.func7
    (ChangeSpec.witness6 (enc := enc) (C := Try.checked) false ⟨#[], #[.slice none 0 0, .int .i64 0, .int .i64 0], []⟩ 8 (by kernel_rfl) (by kernel_rfl) (by kernel_rfl) (by kernel_rfl)) ?_
  intro W base args ds gs before hval0 hW hcnd hsz0 _
  have hsz : (DataW.weightsEach Try.prog (Try.f7.params.toList ++ Rows.indexSwingsSpec.plain.varTypes Try.prog) (ds ++ gs)).all (· ≤ reachBytes) = true := hsz0
  clear hsz0
  have hval : ∀ (j : Nat) t v, Try.f7.params[j]? = some t → args[j]? = some v → Value.okWide Try.prog W .any base t v := hval0
  have hW' := hW
  obtain ⟨p, q, hA0, hV, rfl, hfz, hnd⟩ := hW
  have hA : DataW.TrodAll enc Try.prog W 0 (fun _ => true) true Try.f7.params.toList args.toList ds p := hA0
  rw [Try.params7] at hA hval hsz
  obtain ⟨v0, vs0, d0, ds0, p0, q0, hargs, rfl, rfl, h0, r0⟩ := trodAll_cons hA
  obtain ⟨v1, vs1, d1, ds1, p1, q1, rfl, rfl, rfl, h1, r1⟩ := trodAll_cons r0
  obtain ⟨v2, vs2, d2, ds2, p2, q2, rfl, rfl, rfl, h2, r2⟩ := trodAll_cons r1
  obtain ⟨rfl, rfl, rfl⟩ := trodAll_nil r2
  obtain rfl : args = #[v0, v1, v2] := by cases args; simp_all
  obtain ⟨rfl, rfl⟩ := trodVars_none hV
  have k0 := h0
  have lt0 : ∀ x ∈ p0, x.block < W.heap.size := by obtain ⟨m, hm⟩ := k0; exact DataW.trod_lt m _ _ _ hm
  obtain ⟨a0, cap0, l0, rfl, n0⟩ := open_dls (hval 0 22 v0 rfl rfl) h0 hsz (j := 0) rfl rfl
  obtain ⟨a1, rfl, rfl, rfl, w1⟩ := open_int Try.underlying3 (hval 1 3 v1 rfl rfl) h1
  have b1 := i64_of_wf w1
  obtain ⟨a2, rfl, rfl, rfl, w2⟩ := open_int Try.underlying3 (hval 2 3 v2 rfl rfl) h2
  have b2 := i64_of_wf w2
  clear hA0 hval0
  refine (walk a0 cap0 l0 a1 a2 W n0 b1 b2).mono fun e W' ⟨he, bel⟩ => ?_
  subst he
  exact ⟨_, rfl, _, _, _, [], _, [], hW', trodAll_mk1 (shut_bool Try.underlying4 _), (trodAll_cons_mk (Below.trod laidOut (by kernel_rfl) (of_decide_eq_true (by kernel_rfl)) k0 bel lt0) (trodAll_cons_mk (shut_int Try.underlying3 w1) (trodAll_cons_mk (shut_int Try.underlying3 w2) trodAll_mk0))), rfl, bel.frame _, fun h => by cases h⟩
theorem over : Rows.indexSwingsRow.holds Try.pinned (OpenSpec.ofChange Rows.indexSwingsSpec) :=
  OpenClaim.holds_of_wide 7 Try.f7 rfl rfl rfl rfl rfl rfl rfl ⟨rfl, rfl, rfl, rfl, rfl⟩ rfl rfl rfl rfl rfl (by kernel_rfl) Try.func7 (by kernel_rfl)
    (of_decide_eq_true (by kernel_rfl)) (by unfold Func.isWrapper; first | (rw [if_pos (by decide +kernel)]; kernel_rfl) | (rw [if_neg (by decide +kernel)]; exact ⟨rfl, rfl⟩))
    (fun os started H enc _ => lifted os started H enc)
theorem proved : Rows.IndexSwingsSaid := over
#print axioms proved
end Go.Proofs.Ythadfopkacbnlaa.lawIndexSwings
