/-
  The chapter's examples.
-/
import Derived.Test.YtiafhgcnjgpeaaaZd
import Derived.Test.YtiafhgcnjgpeaaaYf
namespace Go.Proofs.Ytiafhgcnjgpeaaa
open Go.RowKit Go.K
/-- Join refuses the chapter's trade to an entry. -/
theorem given_no (e : Ent) (v : Int) (hv : ∀ g, joinV (givenC g) e = v) (h : v ≠ 0) (he : ∀ W, EntOk W e) (g : Nat) (W : World) (hg : GRow W g) :
    Calls Try.prog 26 #[(givenC g).agg, e.agg] W fun r w' => ∃ ad, r = .returned (.tuple #[conZ.agg, .slice ad 0 0, .bool false, .int .i64 v]) ∧ Below W.heap.size W w' := by
  refine (join_any (givenC g) e W hg.ok (he W)).mono ?_
  rintro r w' ⟨ad, cap, hr, ho, hn, hb⟩
  have hj : joinV (givenC g) e ≠ 0 := by rw [hv]; exact h
  rw [joinC_no hj, joinG_no hj, hv, decide_eq_false h] at hr
  exact ⟨ad, hr, hb⟩
def wantC (g : Nat) : Con := ⟨4, 1, 2, 9, 1, 3, 5, 0, 0, 0, some ⟨g, 0, none⟩, 1, [⟨2, 7, 10, 0, none, 0, []⟩]⟩
theorem wantC_d (g g' : Nat) : mirD (givenC g) = (wantC g').d := by unfold mirD; rw [if_pos (given_terms g)]; rfl
def backG : List Gi := [⟨1, 3, 0⟩, ⟨1, 0, 5⟩]
end Go.Proofs.Ytiafhgcnjgpeaaa
namespace Go.Proofs.Ytiafhgcnjgpeaaa.lawTradeKnown
open Go.RowKit Go.K Go.ChangeShapes Go.WideShapes Go.ChangeAt
set_option linter.unusedVariables false
set_option linter.unusedSimpArgs false
set_option maxRecDepth 100000 in
set_option maxHeartbeats 4000000 in
theorem walk (w : World) : Calls Try.prog 7 #[] w fun r w' => r = .returned (.bool true) ∧ Below w.heap.size w w' := by
  go_enter Try.func7, Try.ntmps7
  go_wp2_with fail
  refine (awake_any _).mono ?_
  rintro r0 w1 ⟨rfl, hb⟩
  have HB1 := Lib.hid hb
  clear hb
  go_wp2_with fail
  refine (refuses_any w1).mono ?_
  rintro r0 w2 ⟨ad, cap, rfl, hs, hb⟩
  have HB2 := Lib.hid (HB1.out.trans (hb.mono HB1.out.size))
  have K34 := Lib.hid (show Calls Try.prog 34 #[.slice ad 9 cap, .slice (some ⟨w2.heap.size, 0, none⟩) 9 9] (w2.alloc (.cells #[.int .i64 234, .int .i64 200, .int .i64 200, .int .i64 200, .int .i64 200, .int .i64 200, .int .i64 200, .int .i64 200, .int .i64 200] 3)) _ from ints_true ad (some ⟨w2.heap.size, 0, none⟩) cap 9 RF (w2.alloc (.cells #[.int .i64 234, .int .i64 200, .int .i64 200, .int .i64 200, .int .i64 200, .int .i64 200, .int .i64 200, .int .i64 200, .int .i64 200] 3)) (by unfold maxLen; decide) (hs.kept ((Below.refl _ _).alloc (Nat.le_refl _) _)) (sl_new w2 [.int .i64 234, .int .i64 200, .int .i64 200, .int .i64 200, .int .i64 200, .int .i64 200, .int .i64 200, .int .i64 200, .int .i64 200] 3 (0, 0)))
  clear hb hs
  go_wp2_with fail
  with_reducible refine K34.out.mono ?_
  rintro r0 w3 ⟨rfl, hq⟩
  have HB3 := Lib.hid ((HB2.out.alloc HB2.out.size _).trans (hq.below _))
  clear hq K34
  go_wp2_with fail
  refine (given_any _).mono ?_
  rintro r0 w4 ⟨gw4, rfl, hg, hge, hb⟩
  have HGw4 := Lib.hid hg
  have HBw4 := Lib.hid (HB3.out.trans (hb.mono HB3.out.size))
  have K26 := Lib.hid (given_no ⟨1, 7, 10, 0, none, 0, []⟩ 234 (fun g => by unfold joinV; rw [given_terms]; simp [givenC, bareP]) (by decide) (fun _ => ⟨Sl.nil _ _, Nat.le_refl _, Nat.zero_le _, fun _ => ⟨rfl, rfl⟩⟩) gw4 w4 hg)
  unfold givenC conZ Con.agg Ent.agg at *
  simp only [List.length_cons, List.length_nil, Nat.zero_add] at K26 ⊢
  clear hg hge hb
  go_wp2_with fail
  refine K26.out.mono ?_
  rintro r0 w5 ⟨ad4, rfl, hb⟩
  have HB5 := Lib.hid ((HBw4.out.trans (hb.mono HBw4.out.size)).alloc (HBw4.out.trans (hb.mono HBw4.out.size)).size (.cells #[.int .i64 0, .int .i64 0, .int .i64 0, .int .i64 0, .int .i64 0, .int .i64 0, .int .u64 0, .int .u64 0, .int .u64 0, .int .i64 0, .slice none 0 0] 25))
  clear hb K26
  go_wp2_with fail
  refine (given_any _).mono ?_
  rintro r0 w6 ⟨gw6, rfl, hg, hge, hb⟩
  have HGw6 := Lib.hid hg
  have HBw6 := Lib.hid (HB5.out.trans (hb.mono HB5.out.size))
  have K26 := Lib.hid (given_no ⟨3, 7, 10, 0, none, 0, []⟩ 200 (fun g => by unfold joinV; rw [given_terms]; simp [givenC, bareP]) (by decide) (fun _ => ⟨Sl.nil _ _, Nat.le_refl _, Nat.zero_le _, fun _ => ⟨rfl, rfl⟩⟩) gw6 w6 hg)
  unfold givenC conZ Con.agg Ent.agg at *
  simp only [List.length_cons, List.length_nil, Nat.zero_add] at K26 ⊢
  clear hg hge hb
  go_wp2_with fail
  refine K26.out.mono ?_
  rintro r0 w7 ⟨ad6, rfl, hb⟩
  have HB7 := Lib.hid ((HBw6.out.trans (hb.mono HBw6.out.size)).alloc (HBw6.out.trans (hb.mono HBw6.out.size)).size (.cells #[.int .i64 0, .int .i64 0, .int .i64 0, .int .i64 0, .int .i64 0, .int .i64 0, .int .u64 0, .int .u64 0, .int .u64 0, .int .i64 0, .slice none 0 0] 25))
  clear hb K26
  go_wp2_with fail
  refine (given_any _).mono ?_
  rintro r0 w8 ⟨gw8, rfl, hg, hge, hb⟩
  have HGw8 := Lib.hid hg
  have HBw8 := Lib.hid (HB7.out.trans (hb.mono HB7.out.size))
  have K26 := Lib.hid (given_no ⟨2, 7, 11, 0, none, 0, []⟩ 200 (fun g => by unfold joinV; rw [given_terms]; simp [givenC, bareP]) (by decide) (fun _ => ⟨Sl.nil _ _, Nat.le_refl _, Nat.zero_le _, fun _ => ⟨rfl, rfl⟩⟩) gw8 w8 hg)
  unfold givenC conZ Con.agg Ent.agg at *
  simp only [List.length_cons, List.length_nil, Nat.zero_add] at K26 ⊢
  clear hg hge hb
  go_wp2_with fail
  refine K26.out.mono ?_
  rintro r0 w9 ⟨ad8, rfl, hb⟩
  have HB9 := Lib.hid ((HBw8.out.trans (hb.mono HBw8.out.size)).alloc (HBw8.out.trans (hb.mono HBw8.out.size)).size (.cells #[.int .i64 0, .int .i64 0, .int .i64 0, .int .i64 0, .int .i64 0, .int .i64 0, .int .u64 0, .int .u64 0, .int .u64 0, .int .i64 0, .slice none 0 0] 25))
  clear hb K26
  go_wp2_with fail
  refine (given_any _).mono ?_
  rintro r0 w10 ⟨gw10, rfl, hg, hge, hb⟩
  have HGw10 := Lib.hid hg
  have HBw10 := Lib.hid (HB9.out.trans (hb.mono HB9.out.size))
  have K11 := Lib.hid (mirror_any (givenC gw10) w10 hg.ok)
  rw [given_terms] at K11
  have HMD := Lib.hid (wantC_d gw10)
  generalize mirD (givenC gw10) = MD at K11 HMD
  unfold givenC Con.agg at K11 ⊢
  simp only [List.length_cons, List.length_nil, Nat.zero_add] at K11 ⊢
  clear hg hge hb
  go_wp2_with fail
  refine K11.out.mono ?_
  rintro r0 w11 ⟨m, rfl, hmd, hnm, hb⟩
  subst hmd
  have HB11 := Lib.hid (HBw10.out.trans (hb.mono HBw10.out.size))
  have HNM := Lib.hid hnm
  clear hb hnm K11
  have HBX := Lib.hid (((((Below.refl w11.heap.size w11).alloc (Nat.le_refl _) (.cells #[.int .i64 m.num, .int .i64 m.kind, .int .i64 m.by', .int .i64 m.dl, .int .i64 m.to, .int .i64 m.want, .int .u64 m.price, .int .u64 m.reserve, .int .u64 m.step, .int .i64 m.of', .slice m.ea m.es.length m.ec] 25)).alloc (by simp) (.cells #[.int .i64 2, .int .i64 7, .int .u64 10, .int .u64 0, .slice none 0 0] 44)).alloc (by simp; omega) (.cells #[.int .i64 4, .int .i64 1, .int .i64 2, .int .i64 9, .int .i64 1, .int .i64 3, .int .u64 5, .int .u64 0, .int .u64 0, .int .i64 0, .slice (some ⟨w11.heap.size + 1, 0, none⟩) 1 1] 25)).alloc (by simp; omega) (.cells #[.int .i64 1, .int .i64 3, .int .u64 0, .int .i64 1, .int .i64 0, .int .u64 5] 56))
  have HX : ∃ W, W = ((((w11.alloc (.cells #[.int .i64 m.num, .int .i64 m.kind, .int .i64 m.by', .int .i64 m.dl, .int .i64 m.to, .int .i64 m.want, .int .u64 m.price, .int .u64 m.reserve, .int .u64 m.step, .int .i64 m.of', .slice m.ea m.es.length m.ec] 25)).alloc (.cells #[.int .i64 2, .int .i64 7, .int .u64 10, .int .u64 0, .slice none 0 0] 44)).alloc (.cells #[.int .i64 4, .int .i64 1, .int .i64 2, .int .i64 9, .int .i64 1, .int .i64 3, .int .u64 5, .int .u64 0, .int .u64 0, .int .i64 0, .slice (some ⟨w11.heap.size + 1, 0, none⟩) 1 1] 25)).alloc (.cells #[.int .i64 1, .int .i64 3, .int .u64 0, .int .i64 1, .int .i64 0, .int .u64 5] 56)) := ⟨_, rfl⟩
  obtain ⟨X, hX⟩ := HX
  have RM := Lib.hid (show Box X w11.heap.size m from by rw [hX]; exact alloc_old (alloc_old (alloc_old (alloc_at rfl))))
  have HR := Lib.hid (show X.heap[w11.heap.size + 1]? = some (.cells #[.int .i64 2, .int .i64 7, .int .u64 10, .int .u64 0, .slice none 0 0] 44) from by rw [hX]; exact alloc_old (alloc_old (alloc_at (by simp))))
  have RW := Lib.hid (show Box X (w11.heap.size + 1 + 1) (wantC (w11.heap.size + 1)) from by rw [hX]; exact alloc_old (alloc_at (by simp)))
  have HGX := Lib.hid (show Sl X (some ⟨w11.heap.size + 1 + 1 + 1, 0, none⟩) (gFlat backG) from by
    rw [hX]
    have h := sl_new (((w11.alloc (.cells #[.int .i64 m.num, .int .i64 m.kind, .int .i64 m.by', .int .i64 m.dl, .int .i64 m.to, .int .i64 m.want, .int .u64 m.price, .int .u64 m.reserve, .int .u64 m.step, .int .i64 m.of', .slice m.ea m.es.length m.ec] 25)).alloc (.cells #[.int .i64 2, .int .i64 7, .int .u64 10, .int .u64 0, .slice none 0 0] 44)).alloc (.cells #[.int .i64 4, .int .i64 1, .int .i64 2, .int .i64 9, .int .i64 1, .int .i64 3, .int .u64 5, .int .u64 0, .int .u64 0, .int .i64 0, .slice (some ⟨w11.heap.size + 1, 0, none⟩) 1 1] 25)) [.int .i64 1, .int .i64 3, .int .u64 0, .int .i64 1, .int .i64 0, .int .u64 5] 56 (0, 0)
    simp only [World.size_alloc] at h
    exact h)
  rw [← hX] at HBX
  have HNX := Lib.hid (HNM.out.kept HBX.out)
  have HBW := Lib.hid (HB11.out.trans (HBX.out.mono HB11.out.size))
  have K14 := Lib.hid (same_true m (wantC (w11.heap.size + 1)) X HNX.out.ok (one_ok HR.out _ rfl rfl rfl) (HMD.out _))
  go_wp2_with (first
    | (go_at_call 13; refine (num_any _ _).mono ?_; rintro r0 w6 ⟨rfl, rfl⟩)
    | fail)
  unfold Con.agg wantC at K14
  simp only [List.length_cons, List.length_nil, Nat.zero_add] at K14
  rw [← hX]
  refine K14.out.mono ?_
  rintro r0 w12 ⟨rfl, hb⟩
  have HB12 := Lib.hid (HBW.out.trans (hb.mono HBW.out.size))
  have HGX := Lib.hid (HGX.out.kept hb)
  clear hb K14 hX HBX
  have HL2 : backG.length = 2 := rfl
  go_wp2_with fail
  refine (given_any _).mono ?_
  rintro r0 w13 ⟨gw13, rfl, hg, hge, hb⟩
  have HGw13 := Lib.hid hg
  have HBw13 := Lib.hid (HB12.out.trans (hb.mono HB12.out.size))
  have HGX := Lib.hid (HGX.out.kept hb)
  have KB := Lib.hid (end_any (givenC gw13) w13 hg.ok)
  rw [show backV (givenC gw13).es = backG from by simp [givenC, backV, gV, backG]] at KB
  rw [HL2] at KB
  unfold givenC Con.agg at KB ⊢
  simp only [List.length_cons, List.length_nil, Nat.zero_add] at KB ⊢
  clear hg hge hb
  go_wp2_with fail
  refine KB.out.mono ?_
  rintro r0 w14 ⟨aa13, ac13, rfl, ha, _, hb⟩
  have HB14 := Lib.hid (HBw13.out.trans (hb.mono HBw13.out.size))
  have HGX := Lib.hid (HGX.out.kept hb)
  have K22 := Lib.hid (show Calls Try.prog 22 #[.slice aa13 2 2, .slice (some ⟨w11.heap.size + 1 + 1 + 1, 0, none⟩) 2 2] w14 _ from gifts_true aa13 (some ⟨w11.heap.size + 1 + 1 + 1, 0, none⟩) 2 2 backG w14 (by decide) (sl_owns ha) HGX.out)
  clear hb ha KB
  go_wp2_with fail
  refine K22.out.mono ?_
  rintro r0 w15 ⟨rfl, hq⟩
  have HB15 := Lib.hid (HB14.out.trans ((hq.below _).mono HB14.out.size))
  have HGX := Lib.hid (HGX.out.kept (hq.below _))
  clear hq K22
  go_wp2_with fail
  refine (given_any _).mono ?_
  rintro r0 w16 ⟨gw16, rfl, hg, hge, hb⟩
  have HGw16 := Lib.hid hg
  have HBw16 := Lib.hid (HB15.out.trans (hb.mono HB15.out.size))
  have HGX := Lib.hid (HGX.out.kept hb)
  have KB := Lib.hid (back_any (givenC gw16) w16 hg.ok)
  rw [show backV (givenC gw16).es = backG from by simp [givenC, backV, gV, backG]] at KB
  rw [HL2] at KB
  unfold givenC Con.agg at KB ⊢
  simp only [List.length_cons, List.length_nil, Nat.zero_add] at KB ⊢
  clear hg hge hb
  go_wp2_with fail
  refine KB.out.mono ?_
  rintro r0 w17 ⟨aa16, ac16, rfl, ha, _, hb⟩
  have HB17 := Lib.hid (HBw16.out.trans (hb.mono HBw16.out.size))
  have HGX := Lib.hid (HGX.out.kept hb)
  have K22 := Lib.hid (show Calls Try.prog 22 #[.slice aa16 2 2, .slice (some ⟨w11.heap.size + 1 + 1 + 1, 0, none⟩) 2 2] w17 _ from gifts_true aa16 (some ⟨w11.heap.size + 1 + 1 + 1, 0, none⟩) 2 2 backG w17 (by decide) (sl_owns ha) HGX.out)
  clear hb ha KB
  go_wp2_with fail
  refine K22.out.mono ?_
  rintro r0 w18 ⟨rfl, hq⟩
  have HB18 := Lib.hid (HB17.out.trans ((hq.below _).mono HB17.out.size))
  have HGX := Lib.hid (HGX.out.kept (hq.below _))
  clear hq K22
  go_wp2
  go_ret
  exact ⟨rfl, HB18.out⟩
theorem own : ownKnob Try.prog.godebug = none := by kernel_rfl
theorem laidOut : laidOutB Try.prog = true := by kernel_rfl
set_option maxRecDepth 100000 in
theorem lifted (os : Os) (started : os.Started) (H : Type) (enc : TypeId × Value → H) :
    ReturnsInHanded {} Try.checked os 7 .any (Rows.tradeKnownSpec.pre6 enc Try.prog Try.f7 Rows.tradeKnownRow.domain false) (Rows.tradeKnownSpec.post enc Try.prog Try.f7 false true false false) := by
  refine returnsInHanded_of_change_sized (C := Try.checked) own started (by kernel_rfl) Try.func7
    (ChangeSpec.witness6 (enc := enc) (C := Try.checked) false ⟨#[], #[], []⟩ 8 (by kernel_rfl) (by kernel_rfl) (by kernel_rfl) (by kernel_rfl)) ?_
  intro W base args ds gs before hval0 hW hcnd hsz0 _
  have hsz : (DataW.weightsEach Try.prog (Try.f7.params.toList ++ Rows.tradeKnownSpec.plain.varTypes Try.prog) (ds ++ gs)).all (· ≤ reachBytes) = true := hsz0
  clear hsz0
  have hval : ∀ (j : Nat) t v, Try.f7.params[j]? = some t → args[j]? = some v → Value.okWide Try.prog W .any base t v := hval0
  have hW' := hW
  obtain ⟨p, q, hA0, hV, rfl, hfz, hnd⟩ := hW
  have hA : DataW.TrodAll enc Try.prog W 0 (fun _ => true) true Try.f7.params.toList args.toList ds p := hA0
  rw [Try.params7] at hA hval hsz
  obtain ⟨hargs, rfl, rfl⟩ := trodAll_nil hA
  obtain rfl : args = #[] := by cases args; simp_all
  obtain ⟨rfl, rfl⟩ := trodVars_none hV
  clear hA0 hval0
  refine (walk W).mono fun e W' ⟨he, bel⟩ => ?_
  subst he
  exact ⟨_, rfl, _, _, _, [], _, [], hW', trodAll_mk1 (shut_bool Try.underlying4 _), trodAll_mk0, rfl, bel.frame _, fun h => by cases h⟩
theorem over : Rows.tradeKnownRow.holds Try.pinned (OpenSpec.ofChange Rows.tradeKnownSpec) :=
  OpenClaim.holds_of_wide 7 Try.f7 rfl rfl rfl rfl rfl rfl rfl ⟨rfl, rfl, rfl, rfl, rfl⟩ rfl rfl rfl rfl rfl (by kernel_rfl) Try.func7 (by kernel_rfl)
    (of_decide_eq_true (by kernel_rfl)) (by unfold Func.isWrapper; first | (rw [if_pos (by decide +kernel)]; kernel_rfl) | (rw [if_neg (by decide +kernel)]; exact ⟨rfl, rfl⟩))
    (fun os started H enc _ => lifted os started H enc)
theorem proved : Rows.TradeKnownSaid := over
#print axioms proved
end Go.Proofs.Ytiafhgcnjgpeaaa.lawTradeKnown
